/- The law of ranks: in the order each item stands behind all that it reads. -/
import Derived.Test.YthjgnmpnagmeoaaAmIf
import Derived.Test.YthjgnmpnagmeoaaAmIg
import Derived.Test.YthjgnmpnagmeoaaAmIh
import Derived.Test.YthjgnmpnagmeoaaAmIo
import Derived.Test.YthjgnmpnagmeoaaAmIp
set_option linter.unusedVariables false
set_option linter.unusedSimpArgs false
set_option maxRecDepth 100000
namespace Go.AM
theorem order_law {l : List Se} (h : ¬ (rankE (graphF l)).length < manyN l) {O : List Int} (hO : O = ordF (rkOf (rankE (graphF l))) (zeroTo (manyN l))) : O.length = manyN l ∧ O.Nodup ∧ (∀ n ∈ O, 0 ≤ n ∧ n < (manyN l : Int)) ∧
    ∀ i (hi : i < O.length), ∀ r ∈ readsF l O[i], r ∈ O.take i := by
  have hp : O.Perm (zeroTo (manyN l)) := hO ▸ ordF_perm _ _
  have hs : SortR (rkOf (rankE (graphF l))) O := hO ▸ ordF_sorted _ _
  have hnd : O.Nodup := hp.nodup_iff.2 (zeroTo_nodup _)
  have hmem : ∀ n ∈ O, 0 ≤ n ∧ n < (manyN l : Int) := fun n hn => mem_zeroTo.1 (hp.mem_iff.1 hn)
  refine ⟨by rw [hp.length_eq, zeroTo_len], hnd, hmem, fun i hi r hr => ?_⟩
  have hn := hmem O[i] (List.getElem_mem hi)
  have hrl := readsF_lt hr
  have hrO : r ∈ O := hp.mem_iff.2 (mem_zeroTo.2 hrl)
  obtain ⟨k, hk⟩ : ∃ k : Nat, O[i] = (k : Int) := ⟨O[i].toNat, by omega⟩
  have hkg : k < (graphF l).length := by rw [graphF_len]; omega
  obtain ⟨v, hv, h0, h1⟩ := full_has (g := graphF l) (by rw [graphF_len]; exact h) (k := (k : Int)) (by omega) (by rw [graphF_len]; omega)
  have hj : r ∈ (graphF l)[k] := by rw [graphF_at, ← hk]; exact hr
  obtain ⟨w, hw, hlt⟩ := rankE_rises (graphF l) k v hkg hv r hj
  obtain ⟨j, hjl, hjr⟩ := List.mem_iff_getElem.1 hrO
  have e1 : rkOf (rankE (graphF l)) r = w := by unfold rkOf; rw [hw]; rfl
  have e2 : rkOf (rankE (graphF l)) (k : Int) = v := by unfold rkOf; rw [hv]; rfl
  have hji : j < i := by
    rcases Nat.lt_or_ge j i with h2 | h2
    · exact h2
    · exfalso
      have h3 := sortR_rank hs h2 hjl
      rw [hjr, hk, e1, e2] at h3
      omega
  rw [← hjr]
  refine List.mem_iff_getElem.2 ⟨j, by rw [List.length_take]; omega, ?_⟩
  rw [List.getElem_take]
/-- what was seen: the numbers ahead -/
def seenE (O : List Int) : List (Int × Unit) := O.map fun n => (n, ())
theorem keys_seenO (O : List Int) : keysZ (seenE O) = O := by unfold keysZ seenE; rw [List.map_map]; exact List.map_id _
theorem seenO_get {O : List Int} {r : Int} (h : r ∈ O) : aget r (seenE O) = some () := by
  have := aget_some (k := r) (l := seenE O)
  rw [keys_seenO] at this
  have := this.2 h
  cases ha : aget r (seenE O) with
  | none => rw [ha] at this; cases this
  | some v => rfl
theorem seenO_not {O : List Int} {r : Int} (h : r ∉ O) : aget r (seenE O) = none := by
  refine aget_none.2 ?_
  rw [keys_seenO]; exact h
theorem seenO_put {O : List Int} {r : Int} (h : r ∉ O) : aput r () (seenE O) = seenE (O ++ [r]) := by
  rw [aput_new (by rw [keys_seenO]; exact h)]
  simp [seenE]
theorem nodupO_at {O : List Int} (h : O.Nodup) {i : Nat} (hi : i < O.length) : O[i] ∉ O.take i := fun hm => by
  obtain ⟨j, hj, e⟩ := List.mem_iff_getElem.1 hm
  rw [List.length_take] at hj
  rw [List.getElem_take] at e
  have := (List.pairwise_iff_getElem.1 h) j i (by omega) hi (by omega)
  exact this e
end Go.AM

set_option linter.unusedVariables false
set_option linter.unusedSimpArgs false
set_option maxRecDepth 100000
namespace Go.AM
open Go.RowKit
mutual
def totS : Sc → Nat
  | .mk _ _ it ks => it.length + totL ks
def totL : List Sc → Nat
  | [] => 0
  | k :: r => totS k + totL r
end
theorem totS_mk (n : ByteArray) (m : Int) (it : List It) (ks : List Sc) : totS (.mk n m it ks) = it.length + totL ks := by rw [totS]
theorem totL_nil : totL [] = 0 := by rw [totL]
theorem totL_cons (k : Sc) (r : List Sc) : totL (k :: r) = totS k + totL r := by rw [totL]
theorem many_snoc (l : List Se) (s : Se) : manyN (l ++ [s]) = manyN l + s.items.length := by simp [manyN]
theorem flatL_tot : ∀ (ks : List Sc), (∀ k ∈ ks, ∀ (l : List Se) (par dep : Int), manyN (flatS k l par dep) ≤ manyN l + totS k) → ∀ (l : List Se) (par dep : Int), manyN (flatL ks l par dep) ≤ manyN l + totL ks
  | [], _, l, par, dep => by rw [flatL_nil, totL_nil]; omega
  | k :: r, h, l, par, dep => by
    rw [flatL_cons, totL_cons]
    have h1 := flatL_tot r (fun k hk => h k (List.mem_cons_of_mem _ hk)) (flatS k l par dep) par dep
    have h2 := h k (List.mem_cons_self ..) l par dep
    omega
theorem flatS_tot (x : Sc) : ∀ (l : List Se) (par dep : Int), manyN (flatS x l par dep) ≤ manyN l + totS x := by
  refine Sc.ind (Q := fun x => ∀ (l : List Se) (par dep : Int), manyN (flatS x l par dep) ≤ manyN l + totS x) ?_ x
  clear x
  intro x ih l par dep
  obtain ⟨n, m, it, ks⟩ := x
  by_cases h : 64 ≤ l.length ∨ 16 < dep
  · rw [flatS_no h]; omega
  · rw [flatS_yes h, totS_mk]
    have h1 := flatL_tot ks (fun k hk => ih k hk) (l ++ [⟨par, dep, n, m, it⟩]) (l.length : Int) (dep + 1)
    rw [many_snoc] at h1
    simp only at h1
    omega
inductive Sc.Cnt (n : Nat) : Sc → Prop
  | mk (x : Sc) (h1 : ∀ i ∈ x.items, cntX i.expr ≤ n) (h2 : ∀ k ∈ x.kids, Sc.Cnt n k) : Sc.Cnt n x
theorem Sc.Cnt.item {n : Nat} {x : Sc} (h : x.Cnt n) {i : It} (hi : i ∈ x.items) : cntX i.expr ≤ n := by cases h with | mk _ h1 _ => exact h1 i hi
theorem Sc.Cnt.kid {n : Nat} {x : Sc} (h : x.Cnt n) {k : Sc} (hk : k ∈ x.kids) : k.Cnt n := by cases h with | mk _ _ h2 => exact h2 k hk
theorem Sc.Cnt.mono {n m : Nat} {x : Sc} (h : x.Cnt n) (hnm : n ≤ m) : x.Cnt m := by
  induction h with
  | mk x h1 _ ih => exact .mk x (fun i hi => Nat.le_trans (h1 i hi) hnm) fun k hk => ih k hk
abbrev cntSe (n : Nat) (s : Se) : Prop := ∀ i ∈ s.items, cntX i.expr ≤ n
theorem flatL_cnt {n : Nat} : ∀ (ks : List Sc), (∀ k ∈ ks, ∀ (l : List Se) (par dep : Int), (∀ s ∈ l, cntSe n s) → ∀ s ∈ flatS k l par dep, cntSe n s) → ∀ (l : List Se) (par dep : Int), (∀ s ∈ l, cntSe n s) → ∀ s ∈ flatL ks l par dep, cntSe n s
  | [], _, l, par, dep, hl => by rw [flatL_nil]; exact hl
  | k :: r, h, l, par, dep, hl => by
    rw [flatL_cons]
    exact flatL_cnt r (fun k hk => h k (List.mem_cons_of_mem _ hk)) _ par dep (h k (List.mem_cons_self ..) l par dep hl)
theorem flatS_cnt {n : Nat} (x : Sc) : x.Cnt n → ∀ (l : List Se) (par dep : Int), (∀ s ∈ l, cntSe n s) → ∀ s ∈ flatS x l par dep, cntSe n s := by
  refine Sc.ind (Q := fun x => x.Cnt n → ∀ (l : List Se) (par dep : Int), (∀ s ∈ l, cntSe n s) → ∀ s ∈ flatS x l par dep, cntSe n s) ?_ x
  clear x
  intro x ih hx l par dep hl
  obtain ⟨nm, m, it, ks⟩ := x
  by_cases h : 64 ≤ l.length ∨ 16 < dep
  · rw [flatS_no h]; exact hl
  · rw [flatS_yes h]
    refine flatL_cnt ks (fun k hk => ih k hk (hx.kid hk)) _ _ _ fun s hs => ?_
    rcases List.mem_append.1 hs with h1 | h1
    · exact hl s h1
    · obtain rfl : s = ⟨par, dep, nm, m, it⟩ := by simpa using h1
      exact fun i hi => hx.item hi
theorem Df.flat_many (d : Df) : manyN d.flat ≤ totS d.root := by
  have := flatS_tot d.root [] (-1) 1
  have h : manyN ([] : List Se) = 0 := rfl
  unfold Df.flat
  omega
theorem Df.flat_cnt {n : Nat} {d : Df} (h : d.root.Cnt n) : ∀ s ∈ d.flat, cntSe n s := flatS_cnt d.root h [] (-1) 1 fun s hs => absurd hs (by simp)
section
variable {H : Type} {P : Program} {φ : Prot} {T : TypeId → TD} {tD tS tSI tI tSS tE t7 tSP tP tT tStep : TypeId} {bulk : DataW H → Nat}
theorem totL_le {bulk : DataW H → Nat} : ∀ (l : List Sc) (el : List (DataW H)), l.length = el.length → (∀ i (h : i < l.length) (h' : i < el.length), totS l[i] ≤ bulk el[i]) → totL l ≤ (el.map bulk).sum
  | [], _, _, _ => by rw [totL_nil]; exact Nat.zero_le _
  | s :: l, [], h, _ => by cases h
  | s :: l, d :: el, h, hi => by
    have h0 := hi 0 (by simp) (by simp)
    have h1 := totL_le l el (by simpa using h) (fun i h h' => by have := hi (i + 1) (by simpa using h) (by simpa using h'); simpa using this)
    rw [totL_cons]
    simp only [List.map_cons, List.sum_cons, List.getElem_cons_zero] at h0 ⊢
    omega
theorem open_scB (hE : T tE = tdX tE 176) (hI : T tI = tdIt tE 176) (hS : T tS = tdSc tI tS) (hw : DefW P tD tS tSI tI tSS tE t7 tSP tP) (hb : Bulk bulk) (hbs : ∀ parts : List (DataW H), (parts.map bulk).sum ≤ bulk (.agg parts)) : ∀ (fuel : Nat) (vs : List Val) (cs : List Value) (dd : DataW H), TyD T fuel (tdSc tI tS) vs dd → CellsRel φ vs cs → ∃ x : Sc, ((lite P bulk tS dd → x.Ok) ∧ totS x ≤ bulk dd ∧ x.Cnt (bulk dd)) ∧ CellsRel φ (cSc x) cs := by
  intro fuel
  induction fuel with
  | zero => intro vs cs dd h; exact h.elim
  | succ f ih =>
    intro vs cs dd hty hc
    rw [TyD, TyDS] at hty
    obtain ⟨parts, rfl, hty⟩ := hty
    obtain ⟨a0, r0, d0, q0, e0, g0, t0, hty⟩ := tyDF_cons hty
    obtain ⟨a1, r1, d1, q1, e1, g1, t1, hty⟩ := tyDF_cons hty
    obtain ⟨a2, r2, d2, q2, e2, g2, t2, hty⟩ := tyDF_cons hty
    obtain ⟨a3, r3, d3, q3, e3, g3, t3, hty⟩ := tyDF_cons hty
    obtain ⟨z1, z2⟩ := tyDF_nil hty
    obtain ⟨n, rfl, hn⟩ := tyDS_str t0
    obtain ⟨m, rfl, hm⟩ := tyDS_i64 t1
    obtain ⟨n1, get1, el1, sp1, rfl, hn1, hd1, hl1, hg1⟩ := tyDS_slice t2
    obtain ⟨n2, get2, el2, sp2, rfl, hn2, hd2, hl2, hg2⟩ := tyDS_slice t3
    subst z1 z2 g3 g2 g1 g0 e3 e2 e1 e0
    have hr1 : RelC φ (.ext 23 n1 get1) (cs.getD 2 undef) := (hc.2 2 (by simp)).2
    have hr2 : RelC φ (.ext 4 n2 get2) (cs.getD 3 undef) := (hc.2 3 (by simp)).2
    obtain ⟨its, hi1, hi2, hi3⟩ := rows_relG (enc := cIt) (G := getL cIt) (extL_getL cIt) (fun _ => rfl) (Q := fun i x => ∀ (h : i < el1.length), (lite P bulk tI el1[i] → x.Ok) ∧ cntX x.expr ≤ bulk el1[i]) (fun i hi => (hg1 i (by omega)).1) (fun i cs hi hcs => by
      have h2 := (hg1 i (by omega)).2
      rw [hI] at h2
      obtain ⟨x, h3, h4⟩ := open_itB hE hw hb f (get1 i) cs el1[i] h2 hcs
      exact ⟨x, fun _ => h3, h4⟩) hr1
    obtain ⟨kds, hk1, hk2, hk3⟩ := rows_relG (enc := cSc) (G := Sc.rows) Sc.rows_ext (fun _ => rfl) (Q := fun i x => ∀ (h : i < el2.length), (lite P bulk tS el2[i] → x.Ok) ∧ totS x ≤ bulk el2[i] ∧ x.Cnt (bulk el2[i])) (fun i hi => (hg2 i (by omega)).1) (fun i cs hi hcs => by
      have h2 := (hg2 i (by omega)).2
      rw [hS] at h2
      obtain ⟨x, h3, h4⟩ := ih (get2 i) cs el2[i] h2 hcs
      exact ⟨x, fun _ => h3, h4⟩) hr2
    have hsum := hbs [d0, d1, d2, d3]
    simp only [List.map_cons, List.map_nil, List.sum_cons, List.sum_nil] at hsum
    refine ⟨.mk n m its kds, ⟨fun hl => ?_, ?_, .mk _ (fun i hi => ?_) fun k hk => ?_⟩, hc.1, fun k hk => ?_⟩
    · obtain ⟨fs, hfs, h2, h3⟩ := hw.s
      have w2 := lite_agg hb hfs hl h2 rfl
      have w3 := lite_agg hb hfs hl h3 rfl
      refine .mk _ (by show its.length ≤ maxLen; omega) ?_ (by show kds.length ≤ maxLen; omega) (fun i hi => ?_) fun k hk => ?_
      · show its.length * 232 ≤ 140737488355328
        rcases hd1 with ⟨h0, _⟩ | h0
        · omega
        · rw [h0] at w2
          have w4 := (lite_slice hb hw.si w2).1
          rw [hw.bi] at w4
          have : reachBytes = 140737488351232 := by decide
          rcases w4 with w4 | w4
          case inr => omega
          have w5 : el1.length * 232 ≤ (el1.length + sp1.length) * 232 := Nat.mul_le_mul_right _ (by omega)
          omega
      · obtain ⟨j, hj, rfl⟩ := List.mem_iff_getElem.1 (show i ∈ its from hi)
        rcases hd1 with ⟨h0, _⟩ | h0
        · omega
        · rw [h0] at w2
          exact (hi2 j hj (by omega)).1 ((lite_slice hb hw.si w2).2 j (by omega))
      · obtain ⟨j, hj, rfl⟩ := List.mem_iff_getElem.1 (show k ∈ kds from hk)
        rcases hd2 with ⟨h0, _⟩ | h0
        · omega
        · rw [h0] at w3
          exact (hk2 j hj (by omega)).1 ((lite_slice hb hw.ss w3).2 j (by omega))
    · rw [totS_mk]
      have h1 : its.length ≤ bulk d2 := by
        rcases hd1 with ⟨h0, _⟩ | h0
        · omega
        · have h3 := hb.slice el1 sp1
          have h4 := bulk_len hb el1
          rw [← h0] at h3
          omega
      have h2 : totL kds ≤ bulk d3 := by
        rcases hd2 with ⟨h0, _⟩ | h0
        · obtain rfl : kds = [] := List.eq_nil_of_length_eq_zero (by omega)
          rw [totL_nil]; exact Nat.zero_le _
        · have h3 := hb.slice el2 sp2
          have h4 := totL_le (bulk := bulk) kds el2 (by omega) (fun i h h' => (hk2 i h h').2.1)
          rw [← h0] at h3
          omega
      omega
    · obtain ⟨j, hj, rfl⟩ := List.mem_iff_getElem.1 (show i ∈ its from hi)
      rcases hd1 with ⟨h0, _⟩ | h0
      · omega
      · have h6 := (hi2 j hj (by omega)).2
        have h7 := bulk_mem (bulk := bulk) (el := el1) j (by omega)
        have h8 := hb.slice el1 sp1
        rw [← h0] at h8
        omega
    · obtain ⟨j, hj, rfl⟩ := List.mem_iff_getElem.1 (show k ∈ kds from hk)
      rcases hd2 with ⟨h0, _⟩ | h0
      · omega
      · have h6 := (hk2 j hj (by omega)).2.2
        have h7 := bulk_mem (bulk := bulk) (el := el2) j (by omega)
        have h8 := hb.slice el2 sp2
        rw [← h0] at h8
        exact h6.mono (by omega)
    · match k, hk with
      | 0, _ => exact hc.2 0 (by simp)
      | 1, _ => exact hc.2 1 (by simp)
      | 2, _ => exact ⟨(hc.2 2 (by simp)).1, hi3⟩
      | 3, _ => exact ⟨(hc.2 3 (by simp)).1, hk3⟩
theorem open_dfB {tStr : TypeId} {b : Nat} (hE : T tE = tdX tE 176) (hI : T tI = tdIt tE 176) (hS : T tS = tdSc tI tS) (hP : T tP = tdPg tE tStr) (hT : T tT = tdTb tStep b) (hSt : T tStep = tdStp) (hw : DefW P tD tS tSI tI tSS tE t7 tSP tP) (hb : Bulk bulk) (hbs : ∀ parts : List (DataW H), (parts.map bulk).sum ≤ bulk (.agg parts)) :
    ∀ (fuel : Nat) (vs : List Val) (cs : List Value) (dd : DataW H), TyD T fuel (tdDf tI tS tT tP) vs dd → CellsRel φ vs cs → ∃ x : Df, ((lite P bulk tD dd → x.Fine) ∧ totS x.root ≤ bulk dd ∧ x.root.Cnt (bulk dd)) ∧ CellsRel φ (cDf x) cs := by
  intro fuel vs cs dd hty hc
  cases fuel with
  | zero => exact hty.elim
  | succ f =>
    rw [TyD, TyDS] at hty
    obtain ⟨parts, rfl, hty⟩ := hty
    obtain ⟨a0, r0, d0, q0, e0, g0, t0, hty⟩ := tyDF_cons hty
    obtain ⟨a1, r1, d1, q1, e1, g1, t1, hty⟩ := tyDF_cons hty
    obtain ⟨a2, r2, d2, q2, e2, g2, t2, hty⟩ := tyDF_cons hty
    obtain ⟨a3, r3, d3, q3, e3, g3, t3, hty⟩ := tyDF_cons hty
    obtain ⟨z1, z2⟩ := tyDF_nil hty
    obtain ⟨n, rfl, hn⟩ := tyDS_str t0
    obtain ⟨n1, get1, el1, sp1, rfl, hn1, hd1, hl1, hg1⟩ := tyDS_slice t2
    obtain ⟨n2, get2, el2, sp2, rfl, hn2, hd2, hl2, hg2⟩ := tyDS_slice t3
    subst z1 z2 g3 g2 g1 g0 e3 e2 e1 e0
    have hx : TyD T (f + 1) (tdSc tI tS) a1 d1 := by rw [TyD]; exact t1
    have hc' : CellsRel φ ([.str n] ++ (a1 ++ [.ext 2 n1 get1, .ext 19 n2 get2])) cs := by simpa using hc
    have hp := hc'.part
    obtain ⟨x, ⟨hxo, hxf⟩, hxc⟩ := open_scB hE hI hS hw hb hbs (f + 1) a1 _ d1 hx hp
    have hlen : (cSc x).length = a1.length := by rw [← hxc.1, hp.1]
    have hm := hc'.mid hlen (part_rel hxc hlen)
    have hm : CellsRel φ [.str n, .str x.name, .int .i64 x.max, eL 23 cIt x.items, .ext 4 x.kids.length (Sc.rows x.kids), .ext 2 n1 get1, .ext 19 n2 get2] cs := hm
    obtain ⟨l2, h2, w2⟩ := list_of (P := TbS.ok) (enc := cTbS) (g := get1) (n := n1) (fun i hi => by
      have h2 := (hg1 i (by omega)).2
      rw [hT] at h2
      exact ty_tb hSt h2.ty)
    have hr1 := tabs_rel h2 w2 (hm.2 5 (by simp)).2
    obtain ⟨pgs, hk1, hk2, hk3⟩ := rows_relG (enc := cPg) (G := getL cPg) (extL_getL cPg) (fun _ => rfl) (Q := fun i x => ∀ (h : i < el2.length), lite P bulk tP el2[i] → x.Ok) (fun i hi => (hg2 i (by omega)).1) (fun i cs hi hcs => by
      have h2 := (hg2 i (by omega)).2
      rw [hP] at h2
      obtain ⟨x, h3, h4⟩ := open_pgD hE hw hb f (get2 i) cs el2[i] h2 hcs
      exact ⟨x, fun _ => h3, h4⟩) (hm.2 6 (by simp)).2
    refine ⟨⟨n, x, l2.map TbS.tb, pgs⟩, ⟨fun hl => ⟨⟨?_, ?_, ?_, ?_⟩, ?_⟩, ?_⟩, hm.1, fun k hk => ?_⟩
    · obtain ⟨fs, hfs, h4, h5⟩ := hw.d
      exact hxo (lite_agg hb hfs hl h4 rfl)
    · show (l2.map TbS.tb).length ≤ maxLen
      rw [List.length_map]; have := h2.1; omega
    · show pgs.length ≤ maxLen
      omega
    · intro p hp1
      obtain ⟨fs, hfs, h4, h5⟩ := hw.d
      have w3 := lite_agg hb hfs hl h5 rfl
      obtain ⟨j, hj, rfl⟩ := List.mem_iff_getElem.1 (show p ∈ pgs from hp1)
      rcases hd2 with ⟨h0, _⟩ | h0
      · omega
      · rw [h0] at w3
        exact hk2 j hj (by omega) ((lite_slice hb hw.sp w3).2 j (by omega))
    · intro t ht
      obtain ⟨s, hs, rfl⟩ := List.mem_map.1 (show t ∈ l2.map TbS.tb from ht)
      have h4 := (w2 s hs).ext.1
      have h5 := (w2 s hs).len
      show s.l.length ≤ maxLen
      omega
    · have hb1 := hb.agg [d0, d1, d2, d3] d1 (by simp)
      exact ⟨Nat.le_trans hxf.1 (by omega), hxf.2.mono (by omega)⟩
    · match k, hk with
      | 0, _ => exact hm.2 0 (by simp)
      | 1, _ => exact hm.2 1 (by simp)
      | 2, _ => exact hm.2 2 (by simp)
      | 3, _ => exact hm.2 3 (by simp)
      | 4, _ => exact hm.2 4 (by simp)
      | 5, _ => exact ⟨(hm.2 5 (by simp)).1, hr1⟩
      | 6, _ => exact ⟨(hm.2 6 (by simp)).1, hk3⟩
end
end Go.AM

set_option linter.unusedVariables false
set_option linter.unusedSimpArgs false
set_option maxRecDepth 100000
namespace Go.Proofs.Ythjgnmpnagmeoaa
open Go.AM Go.ChangeShapes Go.WideShapes Go.ChangeAt Go.RowKit
section
variable {H : Type} {enc : TypeId × Value → H} {W0 : World} {spare : Nat → Bool} {held : Bool} {base : Nat} {v : Value} {d : DataW H} {ps : List MemPlace} {r : Reach} {ι : AM.Map}
theorem bulkN_sum (parts : List (DataW H)) : (parts.map Rows.uptoBulk).sum ≤ Rows.uptoBulk (.agg parts) := by
  rw [bulkN_all]; simp only [Rows.uptoBulk]; omega
theorem open_defT (hval : Value.okWide Try.prog W0 r base 29 v) (h : DataW.Trod enc Try.prog W0 0 spare held 29 v d ps) : ∃ x : Df, ((lite Try.prog Rows.uptoBulk 29 d → x.Fine) ∧ totS x.root ≤ Rows.uptoBulk d ∧ x.root.Cnt (Rows.uptoBulk d)) ∧ AM.Rel ι W0.cell? (eDf x) v := by
  obtain ⟨fuel, hf⟩ := h
  have g := good 29 (d := tdDf 70 25 143 146) rfl (by intro h; cases h)
  obtain ⟨vs, hty, hc⟩ := open_D tok closed_tab fuel (tdDf 70 25 143 146) 29 [70, 25, 143, 146] g rfl (fun e he => by
    simp only [List.mem_cons, List.not_mem_nil, or_false] at he
    rcases he with rfl | rfl | rfl | rfl
    · exact ⟨(by intro h; cases h), _, rfl⟩
    · exact ⟨(by intro h; cases h), _, rfl⟩
    · exact ⟨(by intro h; cases h), _, rfl⟩
    · exact ⟨(by intro h; cases h), _, rfl⟩) _ _ _ hf
  obtain ⟨x, hx, hc'⟩ := open_dfB (P := Try.prog) (tStr := 9) (tStep := 149) (b := 144) tab_expr rfl rfl rfl rfl rfl dfw bulkN bulkN_sum fuel vs _ d hty hc
  exact ⟨x, hx, arg_agg g rfl hval hc'⟩
end
end Go.Proofs.Ythjgnmpnagmeoaa

set_option linter.unusedVariables false
set_option linter.unusedSimpArgs false
set_option maxRecDepth 100000
namespace Go.Proofs.Ythjgnmpnagmeoaa
open Go.AM
set_option maxHeartbeats 4000000 in
theorem ranksOrder_ret (d : Df) (hd : d.Ok) (hm : manyN d.flat ≤ 1048576) (hc : ∀ s ∈ d.flat, ∀ i ∈ s.items, cntX i.expr ≤ 1048576) : Ret Try.prog 3 [eDf d] [] (.bool true) [] := by
  have hF := rFlat_ret d hd
  have hok : ∀ s ∈ d.flat, s.Ok := hd.flat
  have hl := d.flat_len
  have hL : LOk d.flat := ⟨hl, hm, hok, hc⟩
  have hV := live_ret
  have hS := small_ret d.flat (Nat.le_trans hl (by decide)) hok
  have hO := order_ret d.flat hL
  have hM := rMany_ret d.flat hl hm
  have hRd : ∀ n : Int, n ≤ 9223372036854775807 → Ret Try.prog 13 [eL 5 cSe d.flat, .int .i64 n] [] (eL 1 cI (readsF d.flat n)) [] := fun n hn => reads_ret d.flat hL n hn
  have hRl : ∀ n, (readsF d.flat n).length ≤ 1048576 := fun n => readsF_len d.flat n hL
  have hlaw := order_law (l := d.flat)
  unfold orderF at hO
  rw [graphF_len] at hO
  unfold eDf cDf at hF ⊢
  clear hd hL hok hc
  generalize d.flat = l at *
  by_cases hb : smallB l = true
  · rw [hb] at hS
    by_cases h : (rankE (graphF l)).length < manyN l
    · rw [if_pos h] at hO
      clear hlaw hRd
      refine ret_of_body atCalls tok mixed Try.func3 (by kernel_rfl) rfl (k := 61) (rs := [.tmp 2]) (by kernel_rfl) (by kernel_rfl) ?_
      (conv => whnf) <;> repeat' (first | ((first | refine wN ?_ | refine wNc ?_ | refine wA ?_ | refine wB ?_ | refine wC ?_ | refine wD ?_ | refine Called.mk _ _ (hF) ?_ | refine Called.mk _ _ (hS) ?_ | refine Called.mk _ _ (hV) ?_ | refine Called.mk _ _ (hO) ?_ | refine Called.mk _ _ (hM) ?_ | refine vA ?_ | refine vB ?_ | refine vC ?_ | refine vD ?_ | refine uA ?_ | refine uB ?_ | refine uC ?_ | refine uD ?_); conv => whnf) | ((first | apply Pick.dec | apply Pick.beq | apply Cond.dec | apply Cond.beq | apply Cond.nd | apply Pick.nd | apply Pick.mk | apply Cond.mk) <;> intro h <;> conv => whnf))
      all_goals exact End.mk rfl rfl
    · rw [if_neg h] at hO
      obtain ⟨hOl, hnd, hrg, hlaw⟩ := hlaw h rfl
      generalize ordF (rkOf (rankE (graphF l))) (zeroTo (manyN l)) = O at *
      dsimp only at hO
      rw [← hOl] at hM
      have hOb : O.length ≤ 1048576 := by omega
      refine ret_of_body atCalls tok mixed Try.func3 (by kernel_rfl) rfl (k := 61) (rs := [.tmp 2]) (by kernel_rfl) (by kernel_rfl) ?_
      (conv => whnf) <;> repeat' (first | ((first | refine wN ?_ | refine wNc ?_ | refine wA ?_ | refine wB ?_ | refine wC ?_ | refine wD ?_ | refine Called.mk _ _ (hF) ?_ | refine Called.mk _ _ (hS) ?_ | refine Called.mk _ _ (hV) ?_ | refine Called.mk _ _ (hO) ?_ | refine Called.mk _ _ (hM) ?_ | refine vA ?_ | refine vB ?_ | refine vC ?_ | refine vD ?_ | refine uA ?_ | refine uB ?_ | refine uC ?_ | refine uD ?_); conv => whnf) | ((first | apply Pick.dec | apply Pick.beq | apply Cond.dec | apply Cond.beq | apply Cond.nd | apply Pick.nd | apply Pick.mk | apply Cond.mk) <;> intro h <;> conv => whnf))
      intro J jw js
      have turn : ∀ (e i : Nat), i + e = O.length → J [.und, .und, .und, eL 5 cSe l, .und, .und, .map 0, .und, .und, .und, .und, .und, .und, .und, .und, .und, .und, .und, .und, .und, .und, .und, .und, .und, .und, .und, .und, .und, .und, .und, .und, .und, .und, .und, .und, .und, eL 1 cI O, .int .i64 (O.length : Int), .int .i64 (i : Int), .und, .und, .und, .und, .und, .und, .und, .und, .und, .und, .und, .und, .und, .und, .und, .und, .und, .und, .und, .und, .und, .und] [setZ (seenE (O.take i))] := by
        intro e
        induction e with
        | zero =>
          intro i hi
          obtain rfl : i = O.length := by omega
          apply js
          conv => whnf
          refine Cond.ff (decF (by omega)) ?_
          (conv => whnf) <;> repeat' (first | ((first | refine wN ?_ | refine wNc ?_ | refine wA ?_ | refine wB ?_ | refine wC ?_ | refine wD ?_ | refine vA ?_ | refine vB ?_ | refine vC ?_ | refine vD ?_ | refine uA ?_ | refine uB ?_ | refine uC ?_ | refine uD ?_); conv => whnf) | ((first | apply Pick.dec | apply Pick.beq | apply Cond.dec | apply Cond.beq | apply Cond.nd | apply Pick.nd | apply Pick.mk | apply Cond.mk) <;> intro h <;> conv => whnf))
          exact End.mk rfl rfl
        | succ e im =>
          intro i hi
          have hil : i < O.length := by omega
          have im := im (i + 1) (by omega)
          rw [List.take_succ_eq_append_getElem hil] at im
          have gk : getL cI O (Int.toNat (i : Int)) = cI O[i] := by rw [Int.toNat_natCast]; exact getL_at (List.getElem?_eq_getElem hil)
          have e1 : IntKind.i64.wrap ((i : Int) + 1) = ((i + 1 : Nat) : Int) := by rw [wi64_id (by omega) (by omega)]; omega
          have hR := hRd O[i] (by have := hrg _ (List.getElem_mem hil); omega)
          have hRl := hRl O[i]
          have hla := hlaw i hil
          have hno := nodupO_at hnd hil
          have hpt := seenO_put hno
          have hnn := seenO_not hno
          rw [← hpt] at im
          generalize O[i] = n at *
          have hag : ∀ r ∈ readsF l n, aget r (seenE (O.take i)) = some () := fun r hr => seenO_get (hla r hr)
          clear hla hno hpt
          generalize seenE (O.take i) = es at *
          have hFn : mfind [.i .i64 n] (encM kI cT es) = none := by rw [show mfind [.i .i64 n] (encM kI cT es) = (aget n es).map cT from mfind_enc kI_inj n es, hnn]; rfl
          have hPn : mput [.i .i64 n] [.bool true] (encM kI cT es) = encM kI cT (aput n () es) := mput_enc (ev := cT) kI_inj n () es
          have hFr : ∀ r ∈ readsF l n, mfind [.i .i64 r] (encM kI cT es) = some [.bool true] := fun r hr => by rw [show mfind [.i .i64 r] (encM kI cT es) = (aget r es).map cT from mfind_enc kI_inj r es, hag r hr]; rfl
          generalize readsF l n = rs at *
          apply js
          conv => whnf
          refine Cond.tt (decT (by omega)) ?_
          (conv => whnf) <;> repeat' (first | ((conv => arg 1; whnf); rw [gk]; conv => whnf) | ((first | refine wN ?_ | refine wNc ?_ | refine wA ?_ | refine wB ?_ | refine wC ?_ | refine wD ?_ | refine Called.mk _ _ (hR) ?_ | refine vA ?_ | refine vB ?_ | refine vC ?_ | refine vD ?_ | refine uA ?_ | refine uB ?_ | refine uC ?_ | refine uD ?_); conv => whnf) | ((first | apply Pick.dec | apply Pick.beq | apply Cond.dec | apply Cond.beq | apply Cond.nd | apply Pick.nd | apply Pick.mk | apply Cond.mk) <;> intro h <;> conv => whnf))
          intro K kw ks
          have inner : ∀ (f j : Nat), j + f = rs.length → K [.und, .und, .und, eL 5 cSe l, .und, .und, .map 0, .und, .int .i64 n, .und, .und, .und, .und, .und, .und, .und, .und, .und, .und, .und, .und, .und, .und, .und, .und, .und, .und, .und, .und, .und, .und, .und, .und, .und, .und, .und, eL 1 cI O, .int .i64 (O.length : Int), .int .i64 (i : Int), .und, .und, .und, .und, .und, eL 1 cI rs, .int .i64 (rs.length : Int), .int .i64 (j : Int), .und, .und, .und, .und, .und, .und, .und, .und, .und, .und, .und, .und, .und, .und] [setZ es] := by
            intro f
            induction f with
            | zero =>
              intro j hj
              obtain rfl : j = rs.length := by omega
              apply ks
              conv => whnf
              refine Cond.ff (decF (by omega)) ?_
              (conv => whnf) <;> repeat' (first | ((conv => arg 1; whnf); rw [hFn]; conv => whnf) | ((first | refine wN ?_ | refine wNc ?_ | refine wA ?_ | refine wB ?_ | refine wC ?_ | refine wD ?_ | refine vA ?_ | refine vB ?_ | refine vC ?_ | refine vD ?_ | refine uA ?_ | refine uB ?_ | refine uC ?_ | refine uD ?_); conv => whnf) | ((first | apply Pick.dec | apply Pick.beq | apply Cond.dec | apply Cond.beq | apply Cond.nd | apply Pick.nd | apply Pick.mk | apply Cond.mk) <;> intro h <;> conv => whnf))
              rw [hPn, e1]
              apply jw [0] [false, false, false, true, false, false, true, false, false, false, false, false, false, false, false, false, false, false, false, false, false, false, false, false, false, false, false, false, false, false, false, false, false, false, false, false, true, true, true] _ _ rfl
              exact im
            | succ f ig =>
              intro j hj
              have hjl : j < rs.length := by omega
              have gj : getL cI rs (Int.toNat (j : Int)) = cI rs[j] := by rw [Int.toNat_natCast]; exact getL_at (List.getElem?_eq_getElem hjl)
              have e2 : IntKind.i64.wrap ((j : Int) + 1) = ((j + 1 : Nat) : Int) := by rw [wi64_id (by omega) (by omega)]; omega
              have ig := ig (j + 1) (by omega)
              have hFj := hFr _ (List.getElem_mem hjl)
              generalize rs[j] = r at *
              apply ks
              conv => whnf
              refine Cond.tt (decT (by omega)) ?_
              (conv => whnf) <;> repeat' (first | ((conv => arg 1; whnf); rw [gj]; conv => whnf) | ((conv => arg 1; whnf); rw [hFj]; conv => whnf) | ((first | refine wN ?_ | refine wNc ?_ | refine wA ?_ | refine wB ?_ | refine wC ?_ | refine wD ?_ | refine vA ?_ | refine vB ?_ | refine vC ?_ | refine vD ?_ | refine uA ?_ | refine uB ?_ | refine uC ?_ | refine uD ?_); conv => whnf) | ((first | apply Pick.dec | apply Pick.beq | apply Cond.dec | apply Cond.beq | apply Cond.nd | apply Pick.nd | apply Pick.mk | apply Cond.mk) <;> intro h <;> conv => whnf))
              rw [e2]
              apply kw [0] [false, false, false, true, false, false, true, false, true, false, false, false, false, false, false, false, false, false, false, false, false, false, false, false, false, false, false, false, false, false, false, false, false, false, false, false, true, true, true, false, false, false, false, false, true, true, true] _ _ rfl
              exact ig
          apply kw [0] [false, false, false, true, false, false, true, false, true, false, false, false, false, false, false, false, false, false, false, false, false, false, false, false, false, false, false, false, false, false, false, false, false, false, false, false, true, true, true, false, false, false, false, false, true, true, true] _ _ rfl
          exact inner rs.length 0 (by omega)
      apply jw [1] [false, false, false, true, false, false, true, false, false, false, false, false, false, false, false, false, false, false, false, false, false, false, false, false, false, false, false, false, false, false, false, false, false, false, false, false, true, true, true] _ _ rfl
      exact turn O.length 0 (by omega)
  · have hb : smallB l = false := by simpa using hb
    rw [hb] at hS
    clear hlaw hRd
    refine ret_of_body atCalls tok mixed Try.func3 (by kernel_rfl) rfl (k := 61) (rs := [.tmp 2]) (by kernel_rfl) (by kernel_rfl) ?_
    (conv => whnf) <;> repeat' (first | ((first | refine wN ?_ | refine wNc ?_ | refine wA ?_ | refine wB ?_ | refine wC ?_ | refine wD ?_ | refine Called.mk _ _ (hF) ?_ | refine Called.mk _ _ (hS) ?_ | refine Called.mk _ _ (hV) ?_ | refine vA ?_ | refine vB ?_ | refine vC ?_ | refine vD ?_ | refine uA ?_ | refine uB ?_ | refine uC ?_ | refine uD ?_); conv => whnf) | ((first | apply Pick.dec | apply Pick.beq | apply Cond.dec | apply Cond.beq | apply Cond.nd | apply Pick.nd | apply Pick.mk | apply Cond.mk) <;> intro h <;> conv => whnf))
    all_goals exact End.mk rfl rfl
end Go.Proofs.Ythjgnmpnagmeoaa

