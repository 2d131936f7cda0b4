/- A definition, read from a row's argument. -/
import Derived.Test.YtkglccolonpnlaaAmHu
import Derived.Test.YtkglccolonpnlaaAmHi
import Derived.Test.YtkglccolonpnlaaAmHy
set_option linter.unusedVariables false
set_option linter.unusedSimpArgs false
set_option maxRecDepth 100000
namespace Go.AM
open Go.RowKit
theorem rows_relG {φ : Prot} {α : Type} {enc : α → List Val} {sz : Nat} {G : List α → Nat → List Val} (hG : ∀ l, ExtL enc l.length (G l) l) (hsz : ∀ x, (enc x).length = sz) {Q : Nat → α → Prop} {n : Nat} {get : Nat → List Val} (hl : ∀ i, i < n → (get i).length = sz)
    (ih : ∀ i cs, i < n → CellsRel φ (get i) cs → ∃ x : α, Q i x ∧ CellsRel φ (enc x) cs) {u : Value} (h : RelC φ (.ext sz n get) u) :
    ∃ l : List α, l.length = n ∧ (∀ i (h : i < l.length), Q i l[i]) ∧ RelC φ (.ext sz l.length (G l)) u := by
  rcases ext_inv h with ⟨rfl, rfl⟩ | ⟨a, c, vals, rfl, hc, hl', hφ, h1, hr⟩
  · exact ⟨[], rfl, fun i hi => absurd hi (by simp), .extNil sz _⟩
  · have pl : ∀ i, i < n → CellsRel φ (get i) ((List.range sz).map (vals i)) := fun i hi => by
      refine ⟨by rw [hl i hi]; simp, fun k hk => ?_⟩
      rw [hl i hi] at hk
      rw [List.getD_eq_getElem?_getD, List.getElem?_map, List.getElem?_range hk]
      exact ⟨h1 i k hi hk, hr i k hi hk⟩
    obtain ⟨l, e, hq⟩ := pick_list (n := n) (Q := fun i x => Q i x ∧ CellsRel φ (enc x) ((List.range sz).map (vals i))) fun i hi => ih i _ hi (pl i hi)
    obtain ⟨_, hrow⟩ := hG l
    subst e
    refine ⟨l, rfl, fun i hi => (hq i hi).1, .ext sz l.length (G l) a c vals (by omega) (fun i hi => by rw [hrow i hi]; exact hsz _) (fun i j hi => hφ i j (by omega)) (fun i j hi => h1 i j (by omega)) fun i j hi hj => ?_⟩
    have := ((hq i hi).2.2 j (by rw [hsz]; exact hj)).2
    have e2 : ((List.range sz).map (vals i)).getD j undef = vals i j := by rw [List.getD_eq_getElem?_getD, List.getElem?_map, List.getElem?_range hj]; rfl
    rw [e2] at this
    rw [hrow i hi]; exact this
theorem getD_left {p a : List Val} {k : Nat} (h : k < p.length) : (p ++ a).getD k .und = p.getD k .und := by
  rw [List.getD_eq_getElem?_getD, List.getElem?_append_left h, ← List.getD_eq_getElem?_getD]
theorem getD_right {p a : List Val} {k : Nat} (h : p.length ≤ k) : (p ++ a).getD k .und = a.getD (k - p.length) .und := by
  rw [List.getD_eq_getElem?_getD, List.getElem?_append_right h, ← List.getD_eq_getElem?_getD]
theorem CellsRel.mid {φ : Prot} {p a q b : List Val} {cs : List Value} (h : CellsRel φ (p ++ (a ++ q)) cs) (hl : b.length = a.length) (hb : ∀ k, k < a.length → RelC φ (b.getD k .und) (cs.getD (p.length + k) undef)) : CellsRel φ (p ++ (b ++ q)) cs := by
  refine ⟨by rw [h.1]; simp [hl], fun k hk => ?_⟩
  have h0 := h.2 k (by simp [hl] at hk ⊢; omega)
  rcases Nat.lt_or_ge k p.length with hp | hp
  · rw [getD_left hp] at h0 ⊢
    exact h0
  · refine ⟨h0.1, ?_⟩
    have h1 := h0.2
    rw [getD_right hp] at h1 ⊢
    rcases Nat.lt_or_ge (k - p.length) a.length with ha | ha
    · rw [getD_left (by omega)]
      have := hb (k - p.length) ha
      rw [show p.length + (k - p.length) = k by omega] at this
      exact this
    · rw [getD_right (by omega), hl]
      rw [getD_right ha] at h1
      exact h1
theorem CellsRel.part {φ : Prot} {p a q : List Val} {cs : List Value} (h : CellsRel φ (p ++ (a ++ q)) cs) : CellsRel φ a ((cs.drop p.length).take a.length) := by
  have h1 := h.1
  simp only [List.length_append] at h1
  refine ⟨by rw [List.length_take, List.length_drop]; omega, fun k hk => ?_⟩
  have h0 := h.2 (p.length + k) (by simp; omega)
  rw [List.getD_eq_getElem?_getD, List.getD_eq_getElem?_getD, List.getElem?_append_right (by omega), Nat.add_sub_cancel_left, List.getElem?_append_left hk] at h0
  rw [List.getD_eq_getElem?_getD, List.getD_eq_getElem?_getD, List.getElem?_take, if_pos hk, List.getElem?_drop]
  exact h0
/-- what is said of a definition's weight -/
structure DefW (P : Program) (tD tS tSI tI tSS tE t7 tSP tP : TypeId) : Prop where
  d : ∃ fs, P.underlying tD = some (.struct fs) ∧ (fs.toList.map (·.type))[1]? = some tS ∧ (fs.toList.map (·.type))[3]? = some tSP
  s : ∃ fs, P.underlying tS = some (.struct fs) ∧ (fs.toList.map (·.type))[2]? = some tSI ∧ (fs.toList.map (·.type))[3]? = some tSS
  si : P.underlying tSI = some (.slice tI)
  bi : P.bytesOf tI = 232
  i : ∃ fs, P.underlying tI = some (.struct fs) ∧ (fs.toList.map (·.type))[5]? = some tE
  ss : P.underlying tSS = some (.slice tS)
  sp : P.underlying tSP = some (.slice tP)
  p : ∃ fs, P.underlying tP = some (.struct fs) ∧ (fs.toList.map (·.type))[1]? = some tE
  xw : XW P tE t7
section
variable {H : Type} {P : Program} {φ : Prot} {T : TypeId → TD} {tD tS tSI tI tSS tE t7 tSP tP tT tStep : TypeId} {bulk : DataW H → Nat}
abbrev light (P : Program) (t : TypeId) (dd : DataW H) : Prop := (dd.weights P t).all (· ≤ reachBytes) = true
theorem light_agg {t : TypeId} {fs : Array Field} {parts : List (DataW H)} (hfs : P.underlying t = some (.struct fs)) (h : light P t (.agg parts)) {i : Nat} {t' : TypeId} {d : DataW H} (h1 : (fs.toList.map (·.type))[i]? = some t') (h2 : parts[i]? = some d) : light P t' d := by
  unfold light at h
  simp only [DataW.weights, hfs] at h
  exact weightsEach_get h i t' d h1 h2
theorem light_slice {t e : TypeId} {elems spare : List (DataW H)} (hs : P.underlying t = some (.slice e)) (h : light P t (.slice elems spare)) : (elems.length + spare.length) * P.bytesOf e ≤ reachBytes ∧ ∀ i (hi : i < elems.length), light P e elems[i] := by
  unfold light at h
  simp only [DataW.weights, hs, List.all_cons, List.all_append, Bool.and_eq_true, decide_eq_true_eq] at h
  exact ⟨h.1, fun i hi => weightsAll_get h.2.1 i hi⟩
/-- light, or of small bulk -/
abbrev lite (P : Program) (bulk : DataW H → Nat) (t : TypeId) (dd : DataW H) : Prop := light P t dd ∨ bulk dd ≤ 1048576
theorem bulk_len (hb : Bulk bulk) : ∀ el : List (DataW H), el.length ≤ (el.map bulk).sum
  | [] => Nat.le_refl _
  | d :: r => by have := hb.one d; have := bulk_len hb r; rw [List.map_cons, List.sum_cons, List.length_cons]; omega
theorem bulk_mem : ∀ {el : List (DataW H)} (i : Nat) (h : i < el.length), bulk el[i] ≤ (el.map bulk).sum
  | [], i, h => absurd h (by simp)
  | d :: r, 0, _ => by rw [List.map_cons, List.sum_cons]; exact Nat.le_add_right _ _
  | d :: r, i + 1, h => by
    have := bulk_mem (el := r) i (by simpa using h)
    rw [List.map_cons, List.sum_cons]
    simp only [List.getElem_cons_succ]
    omega
theorem lite_agg (hb : Bulk bulk) {t : TypeId} {fs : Array Field} {parts : List (DataW H)} (hfs : P.underlying t = some (.struct fs)) (h : lite P bulk t (.agg parts)) {i : Nat} {t' : TypeId} {d : DataW H} (h1 : (fs.toList.map (·.type))[i]? = some t') (h2 : parts[i]? = some d) : lite P bulk t' d := by
  rcases h with h | h
  · exact .inl (light_agg hfs h h1 h2)
  · have := hb.agg parts d (List.mem_of_getElem? h2)
    exact .inr (by omega)
theorem lite_slice (hb : Bulk bulk) {t e : TypeId} {elems spare : List (DataW H)} (hs : P.underlying t = some (.slice e)) (h : lite P bulk t (.slice elems spare)) : ((elems.length + spare.length) * P.bytesOf e ≤ reachBytes ∨ elems.length ≤ 1048576) ∧ ∀ i (hi : i < elems.length), lite P bulk e elems[i] := by
  have h1 := hb.slice elems spare
  have h2 := bulk_len hb elems
  rcases h with h | h
  · exact ⟨.inl (light_slice hs h).1, fun i hi => .inl ((light_slice hs h).2 i hi)⟩
  · exact ⟨.inr (by omega), fun i hi => .inr (by have := bulk_mem (bulk := bulk) i hi; omega)⟩
theorem open_itD (hE : T tE = tdX tE 176) (hw : DefW P tD tS tSI tI tSS tE t7 tSP tP) (hb : Bulk bulk) : ∀ (fuel : Nat) (vs : List Val) (cs : List Value) (dd : DataW H), TyD T fuel (tdIt tE 176) vs dd → CellsRel φ vs cs → ∃ x : It, (lite P bulk tI dd → x.Ok) ∧ CellsRel φ (cIt x) cs := by
  intro fuel vs cs dd hty hc
  cases fuel with
  | zero => exact hty.elim
  | succ f =>
    rw [TyD, TyDS] at hty
    obtain ⟨parts, rfl, hty⟩ := hty
    obtain ⟨a0, r0, d0, q0, e0, g0, t0, hty⟩ := tyDF_cons hty
    obtain ⟨a1, r1, d1, q1, e1, g1, t1, hty⟩ := tyDF_cons hty
    obtain ⟨a2, r2, d2, q2, e2, g2, t2, hty⟩ := tyDF_cons hty
    obtain ⟨a3, r3, d3, q3, e3, g3, t3, hty⟩ := tyDF_cons hty
    obtain ⟨a4, r4, d4, q4, e4, g4, t4, hty⟩ := tyDF_cons hty
    obtain ⟨a5, r5, d5, q5, e5, g5, t5, hty⟩ := tyDF_cons hty
    obtain ⟨z1, z2⟩ := tyDF_nil hty
    obtain ⟨n, rfl, hn⟩ := tyDS_str t0
    obtain ⟨k, rfl, hk⟩ := tyDS_i64 t1
    rw [TyDS] at t2
    obtain ⟨pp, rfl, t2⟩ := t2
    obtain ⟨b0, s0, c0, y0, f0, i0, u0, t2⟩ := tyDF_cons t2
    obtain ⟨b1, s1, c1, y1, f1, i1, u1, t2⟩ := tyDF_cons t2
    obtain ⟨w1, w2⟩ := tyDF_nil t2
    obtain ⟨tk, rfl, htk⟩ := tyDS_i64 u0
    obtain ⟨ts, rfl, hts⟩ := tyDS_i64 u1
    obtain ⟨nd, rfl⟩ := tyDS_bool t3
    obtain ⟨p, rfl, hp⟩ := tyDS_i64 t4
    subst z1 z2 w1 w2 i1 i0 f1 f0 g5 g4 g3 g2 g1 g0 e5 e4 e3 e2 e1 e0
    have hx : TyD T (f + 1) (tdX tE 176) a5 d5 := by rw [TyD]; exact t5
    have hc' : CellsRel φ ([.str n, .int .i64 k, .int .i64 tk, .int .i64 ts, .bool nd, .int .i64 p] ++ a5) cs := by simpa using hc
    obtain ⟨x, ⟨hxw, hxc0, hxl⟩, hxc⟩ := open_xpD hE hw.xw hb (f + 1) a5 _ d5 hx hc'.drop
    obtain ⟨fs, hfs, h5⟩ := hw.i
    exact ⟨⟨n, k, tk, ts, nd, p, x⟩, fun hl => ⟨hxw, (lite_agg hb hfs hl h5 rfl).elim hxl fun h => lens_of_cnt x (Nat.le_trans hxc0 h)⟩, hc'.tail hxc (by have h1 := hxc.1; have h2 := hc'.drop.1; simp only at h1 h2 ⊢; omega)⟩
abbrev tdPg (e tStr : TypeId) : TD := .struct [.str, tdX e 176, .slice tStr 1 16]
abbrev tdSc (tI tS : TypeId) : TD := .struct [.str, .int .i64, .slice tI 23 232, .slice tS 4 72]
abbrev tdDf (tI tS tT tP : TypeId) : TD := .struct [.str, tdSc tI tS, .slice tT 2 40, .slice tP 19 216]
theorem part_rel {b : List Val} {cs : List Value} {p n : Nat} (h : CellsRel φ b ((cs.drop p).take n)) (hn : b.length = n) : ∀ k, k < n → RelC φ (b.getD k .und) (cs.getD (p + k) undef) := fun k hk => by
  have := (h.2 k (by omega)).2
  rw [List.getD_eq_getElem?_getD (l := List.take n (List.drop p cs)), List.getElem?_take, if_pos hk, List.getElem?_drop, ← List.getD_eq_getElem?_getD] at this
  exact this
theorem open_pgD {tStr : TypeId} (hE : T tE = tdX tE 176) (hw : DefW P tD tS tSI tI tSS tE t7 tSP tP) (hb : Bulk bulk) : ∀ (fuel : Nat) (vs : List Val) (cs : List Value) (dd : DataW H), TyD T fuel (tdPg tE tStr) vs dd → CellsRel φ vs cs → ∃ x : Pg, (lite P bulk tP dd → x.Ok) ∧ CellsRel φ (cPg x) cs := by
  intro fuel vs cs dd hty hc
  cases fuel with
  | zero => exact hty.elim
  | succ f =>
    rw [TyD, TyDS] at hty
    obtain ⟨parts, rfl, hty⟩ := hty
    obtain ⟨a0, r0, d0, q0, e0, g0, t0, hty⟩ := tyDF_cons hty
    obtain ⟨a1, r1, d1, q1, e1, g1, t1, hty⟩ := tyDF_cons hty
    obtain ⟨a2, r2, d2, q2, e2, g2, t2, hty⟩ := tyDF_cons hty
    obtain ⟨z1, z2⟩ := tyDF_nil hty
    obtain ⟨n, rfl, hn⟩ := tyDS_str t0
    obtain ⟨m, get, elems, spare, rfl, _, _, _, _⟩ := tyDS_slice t2
    subst z1 z2 g2 g1 g0 e2 e1 e0
    have hx : TyD T (f + 1) (tdX tE 176) a1 d1 := by rw [TyD]; exact t1
    have hc' : CellsRel φ ([.str n] ++ (a1 ++ [.ext 1 m get])) cs := by simpa using hc
    have hp := hc'.part
    obtain ⟨x, ⟨hxw, hxc0, hxl⟩, hxc⟩ := open_xpD hE hw.xw hb (f + 1) a1 _ d1 hx hp
    obtain ⟨fs, hfs, h1⟩ := hw.p
    have hlen : (cE x).length = a1.length := by rw [← hxc.1, hp.1]
    exact ⟨⟨n, x, m, get⟩, fun hl => ⟨hxw, (lite_agg hb hfs hl h1 rfl).elim hxl fun h => lens_of_cnt x (Nat.le_trans hxc0 h)⟩, hc'.mid hlen (part_rel hxc hlen)⟩
theorem bulk_in (hb : Bulk bulk) {n : Nat} {el sp : List (DataW H)} {d : DataW H} {parts : List (DataW H)} (hd : (n = 0 ∧ el = []) ∨ d = .slice el sp) (hn : el.length = n) (hm : d ∈ parts) : n ≤ bulk (.agg parts) := by
  rcases hd with ⟨h, _⟩ | rfl
  · omega
  · have := hb.agg parts _ hm
    have := hb.slice el sp
    have := bulk_len hb el
    omega
/-- few items and kids -/
def Sc.Few (x : Sc) (n : Nat) : Prop := x.items.length ≤ n ∧ x.kids.length ≤ n
theorem open_scD (hE : T tE = tdX tE 176) (hI : T tI = tdIt tE 176) (hS : T tS = tdSc tI tS) (hw : DefW P tD tS tSI tI tSS tE t7 tSP tP) (hb : Bulk bulk) : ∀ (fuel : Nat) (vs : List Val) (cs : List Value) (dd : DataW H), TyD T fuel (tdSc tI tS) vs dd → CellsRel φ vs cs → ∃ x : Sc, (lite P bulk tS dd → x.Ok) ∧ x.Few (bulk dd) ∧ CellsRel φ (cSc x) cs := by
  intro fuel
  induction fuel with
  | zero => intro vs cs dd h; exact h.elim
  | succ f ih =>
    intro vs cs dd hty hc
    rw [TyD, TyDS] at hty
    obtain ⟨parts, rfl, hty⟩ := hty
    obtain ⟨a0, r0, d0, q0, e0, g0, t0, hty⟩ := tyDF_cons hty
    obtain ⟨a1, r1, d1, q1, e1, g1, t1, hty⟩ := tyDF_cons hty
    obtain ⟨a2, r2, d2, q2, e2, g2, t2, hty⟩ := tyDF_cons hty
    obtain ⟨a3, r3, d3, q3, e3, g3, t3, hty⟩ := tyDF_cons hty
    obtain ⟨z1, z2⟩ := tyDF_nil hty
    obtain ⟨n, rfl, hn⟩ := tyDS_str t0
    obtain ⟨m, rfl, hm⟩ := tyDS_i64 t1
    obtain ⟨n1, get1, el1, sp1, rfl, hn1, hd1, hl1, hg1⟩ := tyDS_slice t2
    obtain ⟨n2, get2, el2, sp2, rfl, hn2, hd2, hl2, hg2⟩ := tyDS_slice t3
    subst z1 z2 g3 g2 g1 g0 e3 e2 e1 e0
    have hr1 : RelC φ (.ext 23 n1 get1) (cs.getD 2 undef) := (hc.2 2 (by simp)).2
    have hr2 : RelC φ (.ext 4 n2 get2) (cs.getD 3 undef) := (hc.2 3 (by simp)).2
    obtain ⟨its, hi1, hi2, hi3⟩ := rows_relG (enc := cIt) (G := getL cIt) (extL_getL cIt) (fun _ => rfl) (Q := fun i x => ∀ (h : i < el1.length), lite P bulk tI el1[i] → x.Ok) (fun i hi => (hg1 i (by omega)).1) (fun i cs hi hcs => by
      have h2 := (hg1 i (by omega)).2
      rw [hI] at h2
      obtain ⟨x, h3, h4⟩ := open_itD hE hw hb f (get1 i) cs el1[i] h2 hcs
      exact ⟨x, fun _ => h3, h4⟩) hr1
    obtain ⟨kds, hk1, hk2, hk3⟩ := rows_relG (enc := cSc) (G := Sc.rows) Sc.rows_ext (fun _ => rfl) (Q := fun i x => ∀ (h : i < el2.length), lite P bulk tS el2[i] → x.Ok) (fun i hi => (hg2 i (by omega)).1) (fun i cs hi hcs => by
      have h2 := (hg2 i (by omega)).2
      rw [hS] at h2
      obtain ⟨x, h3, _, h4⟩ := ih (get2 i) cs el2[i] h2 hcs
      exact ⟨x, fun _ => h3, h4⟩) hr2
    refine ⟨.mk n m its kds, fun hl => ?_, ⟨?_, ?_⟩, hc.1, fun k hk => ?_⟩
    · obtain ⟨fs, hfs, h2, h3⟩ := hw.s
      have w2 := lite_agg hb hfs hl h2 rfl
      have w3 := lite_agg hb hfs hl h3 rfl
      refine .mk _ (by show its.length ≤ maxLen; omega) ?_ (by show kds.length ≤ maxLen; omega) (fun i hi => ?_) fun k hk => ?_
      · show its.length * 232 ≤ 140737488355328
        rcases hd1 with ⟨h0, _⟩ | h0
        · omega
        · rw [h0] at w2
          have w4 := (lite_slice hb hw.si w2).1
          rw [hw.bi] at w4
          have : reachBytes = 140737488351232 := by decide
          rcases w4 with w4 | w4
          case inr => omega
          have w5 : el1.length * 232 ≤ (el1.length + sp1.length) * 232 := Nat.mul_le_mul_right _ (by omega)
          omega
      · obtain ⟨j, hj, rfl⟩ := List.mem_iff_getElem.1 (show i ∈ its from hi)
        rcases hd1 with ⟨h0, _⟩ | h0
        · omega
        · rw [h0] at w2
          exact hi2 j hj (by omega) ((lite_slice hb hw.si w2).2 j (by omega))
      · obtain ⟨j, hj, rfl⟩ := List.mem_iff_getElem.1 (show k ∈ kds from hk)
        rcases hd2 with ⟨h0, _⟩ | h0
        · omega
        · rw [h0] at w3
          exact hk2 j hj (by omega) ((lite_slice hb hw.ss w3).2 j (by omega))
    · show its.length ≤ _
      rw [hi1]
      exact bulk_in hb hd1 hl1 (by simp)
    · show kds.length ≤ _
      rw [hk1]
      exact bulk_in hb hd2 hl2 (by simp)
    · match k, hk with
      | 0, _ => exact hc.2 0 (by simp)
      | 1, _ => exact hc.2 1 (by simp)
      | 2, _ => exact ⟨(hc.2 2 (by simp)).1, hi3⟩
      | 3, _ => exact ⟨(hc.2 3 (by simp)).1, hk3⟩
def Df.Few (d : Df) (n : Nat) : Prop := d.root.Few n ∧ d.tabs.length ≤ n
/-- what a row's contract may ask of a definition -/
def Df.Fine (d : Df) : Prop := d.Ok ∧ ∀ t ∈ d.tabs, t.steps.length ≤ maxLen
theorem open_dfD {tStr : TypeId} {b : Nat} (hE : T tE = tdX tE 176) (hI : T tI = tdIt tE 176) (hS : T tS = tdSc tI tS) (hP : T tP = tdPg tE tStr) (hT : T tT = tdTb tStep b) (hSt : T tStep = tdStp) (hw : DefW P tD tS tSI tI tSS tE t7 tSP tP) (hb : Bulk bulk) :
    ∀ (fuel : Nat) (vs : List Val) (cs : List Value) (dd : DataW H), TyD T fuel (tdDf tI tS tT tP) vs dd → CellsRel φ vs cs → ∃ x : Df, ((lite P bulk tD dd → x.Fine) ∧ x.Few (bulk dd)) ∧ CellsRel φ (cDf x) cs := by
  intro fuel vs cs dd hty hc
  cases fuel with
  | zero => exact hty.elim
  | succ f =>
    rw [TyD, TyDS] at hty
    obtain ⟨parts, rfl, hty⟩ := hty
    obtain ⟨a0, r0, d0, q0, e0, g0, t0, hty⟩ := tyDF_cons hty
    obtain ⟨a1, r1, d1, q1, e1, g1, t1, hty⟩ := tyDF_cons hty
    obtain ⟨a2, r2, d2, q2, e2, g2, t2, hty⟩ := tyDF_cons hty
    obtain ⟨a3, r3, d3, q3, e3, g3, t3, hty⟩ := tyDF_cons hty
    obtain ⟨z1, z2⟩ := tyDF_nil hty
    obtain ⟨n, rfl, hn⟩ := tyDS_str t0
    obtain ⟨n1, get1, el1, sp1, rfl, hn1, hd1, hl1, hg1⟩ := tyDS_slice t2
    obtain ⟨n2, get2, el2, sp2, rfl, hn2, hd2, hl2, hg2⟩ := tyDS_slice t3
    subst z1 z2 g3 g2 g1 g0 e3 e2 e1 e0
    have hx : TyD T (f + 1) (tdSc tI tS) a1 d1 := by rw [TyD]; exact t1
    have hc' : CellsRel φ ([.str n] ++ (a1 ++ [.ext 2 n1 get1, .ext 19 n2 get2])) cs := by simpa using hc
    have hp := hc'.part
    obtain ⟨x, hxo, hxf, hxc⟩ := open_scD hE hI hS hw hb (f + 1) a1 _ d1 hx hp
    have hlen : (cSc x).length = a1.length := by rw [← hxc.1, hp.1]
    have hm := hc'.mid hlen (part_rel hxc hlen)
    have hm : CellsRel φ [.str n, .str x.name, .int .i64 x.max, eL 23 cIt x.items, .ext 4 x.kids.length (Sc.rows x.kids), .ext 2 n1 get1, .ext 19 n2 get2] cs := hm
    obtain ⟨l2, h2, w2⟩ := list_of (P := TbS.ok) (enc := cTbS) (g := get1) (n := n1) (fun i hi => by
      have h2 := (hg1 i (by omega)).2
      rw [hT] at h2
      exact ty_tb hSt h2.ty)
    have hr1 := tabs_rel h2 w2 (hm.2 5 (by simp)).2
    obtain ⟨pgs, hk1, hk2, hk3⟩ := rows_relG (enc := cPg) (G := getL cPg) (extL_getL cPg) (fun _ => rfl) (Q := fun i x => ∀ (h : i < el2.length), lite P bulk tP el2[i] → x.Ok) (fun i hi => (hg2 i (by omega)).1) (fun i cs hi hcs => by
      have h2 := (hg2 i (by omega)).2
      rw [hP] at h2
      obtain ⟨x, h3, h4⟩ := open_pgD hE hw hb f (get2 i) cs el2[i] h2 hcs
      exact ⟨x, fun _ => h3, h4⟩) (hm.2 6 (by simp)).2
    refine ⟨⟨n, x, l2.map TbS.tb, pgs⟩, ⟨fun hl => ⟨⟨?_, ?_, ?_, ?_⟩, ?_⟩, ?_⟩, hm.1, fun k hk => ?_⟩
    · obtain ⟨fs, hfs, h4, h5⟩ := hw.d
      exact hxo (lite_agg hb hfs hl h4 rfl)
    · show (l2.map TbS.tb).length ≤ maxLen
      rw [List.length_map]; have := h2.1; omega
    · show pgs.length ≤ maxLen
      omega
    · intro p hp1
      obtain ⟨fs, hfs, h4, h5⟩ := hw.d
      have w3 := lite_agg hb hfs hl h5 rfl
      obtain ⟨j, hj, rfl⟩ := List.mem_iff_getElem.1 (show p ∈ pgs from hp1)
      rcases hd2 with ⟨h0, _⟩ | h0
      · omega
      · rw [h0] at w3
        exact hk2 j hj (by omega) ((lite_slice hb hw.sp w3).2 j (by omega))
    · intro t ht
      obtain ⟨s, hs, rfl⟩ := List.mem_map.1 (show t ∈ l2.map TbS.tb from ht)
      have h4 := (w2 s hs).ext.1
      have h5 := (w2 s hs).len
      show s.l.length ≤ maxLen
      omega
    · have hb1 := hb.agg [d0, d1, d2, d3] d1 (by simp)
      refine ⟨⟨?_, ?_⟩, ?_⟩
      · have := hxf.1; show x.items.length ≤ _; omega
      · have := hxf.2; show x.kids.length ≤ _; omega
      · show (l2.map TbS.tb).length ≤ _
        rw [List.length_map]
        have h4 := h2.1
        have h5 := bulk_in hb hd1 hl1 (parts := [d0, d1, d2, d3]) (by simp)
        omega
    · match k, hk with
      | 0, _ => exact hm.2 0 (by simp)
      | 1, _ => exact hm.2 1 (by simp)
      | 2, _ => exact hm.2 2 (by simp)
      | 3, _ => exact hm.2 3 (by simp)
      | 4, _ => exact hm.2 4 (by simp)
      | 5, _ => exact ⟨(hm.2 5 (by simp)).1, hr1⟩
      | 6, _ => exact ⟨(hm.2 6 (by simp)).1, hk3⟩
end
end Go.AM

