/- A definition, read from a row's argument. -/
import Derived.Test.YthjgnmpnagmeoaaAmHu
import Derived.Test.YthjgnmpnagmeoaaAmHi
import Derived.Test.YthjgnmpnagmeoaaAmHy
import Derived.Test.YthjgnmpnagmeoaaAmIf
set_option linter.unusedVariables false
set_option linter.unusedSimpArgs false
set_option maxRecDepth 100000
namespace Go.AM
open Go.RowKit
theorem rows_relG {φ : Prot} {α : Type} {enc : α → List Val} {sz : Nat} {G : List α → Nat → List Val} (hG : ∀ l, ExtL enc l.length (G l) l) (hsz : ∀ x, (enc x).length = sz) {Q : Nat → α → Prop} {n : Nat} {get : Nat → List Val} (hl : ∀ i, i < n → (get i).length = sz)
    (ih : ∀ i cs, i < n → CellsRel φ (get i) cs → ∃ x : α, Q i x ∧ CellsRel φ (enc x) cs) {u : Value} (h : RelC φ (.ext sz n get) u) :
    ∃ l : List α, l.length = n ∧ (∀ i (h : i < l.length), Q i l[i]) ∧ RelC φ (.ext sz l.length (G l)) u := by
  rcases ext_inv h with ⟨rfl, rfl⟩ | ⟨a, c, vals, rfl, hc, hl', hφ, h1, hr⟩
  · exact ⟨[], rfl, fun i hi => absurd hi (by simp), .extNil sz _⟩
  · have pl : ∀ i, i < n → CellsRel φ (get i) ((List.range sz).map (vals i)) := fun i hi => by
      refine ⟨by rw [hl i hi]; simp, fun k hk => ?_⟩
      rw [hl i hi] at hk
      rw [List.getD_eq_getElem?_getD, List.getElem?_map, List.getElem?_range hk]
      exact ⟨h1 i k hi hk, hr i k hi hk⟩
    obtain ⟨l, e, hq⟩ := pick_list (n := n) (Q := fun i x => Q i x ∧ CellsRel φ (enc x) ((List.range sz).map (vals i))) fun i hi => ih i _ hi (pl i hi)
    obtain ⟨_, hrow⟩ := hG l
    subst e
    refine ⟨l, rfl, fun i hi => (hq i hi).1, .ext sz l.length (G l) a c vals (by omega) (fun i hi => by rw [hrow i hi]; exact hsz _) (fun i j hi => hφ i j (by omega)) (fun i j hi => h1 i j (by omega)) fun i j hi hj => ?_⟩
    have := ((hq i hi).2.2 j (by rw [hsz]; exact hj)).2
    have e2 : ((List.range sz).map (vals i)).getD j undef = vals i j := by rw [List.getD_eq_getElem?_getD, List.getElem?_map, List.getElem?_range hj]; rfl
    rw [e2] at this
    rw [hrow i hi]; exact this
theorem getD_left {p a : List Val} {k : Nat} (h : k < p.length) : (p ++ a).getD k .und = p.getD k .und := by
  rw [List.getD_eq_getElem?_getD, List.getElem?_append_left h, ← List.getD_eq_getElem?_getD]
theorem getD_right {p a : List Val} {k : Nat} (h : p.length ≤ k) : (p ++ a).getD k .und = a.getD (k - p.length) .und := by
  rw [List.getD_eq_getElem?_getD, List.getElem?_append_right h, ← List.getD_eq_getElem?_getD]
theorem CellsRel.mid {φ : Prot} {p a q b : List Val} {cs : List Value} (h : CellsRel φ (p ++ (a ++ q)) cs) (hl : b.length = a.length) (hb : ∀ k, k < a.length → RelC φ (b.getD k .und) (cs.getD (p.length + k) undef)) : CellsRel φ (p ++ (b ++ q)) cs := by
  refine ⟨by rw [h.1]; simp [hl], fun k hk => ?_⟩
  have h0 := h.2 k (by simp [hl] at hk ⊢; omega)
  rcases Nat.lt_or_ge k p.length with hp | hp
  · rw [getD_left hp] at h0 ⊢
    exact h0
  · refine ⟨h0.1, ?_⟩
    have h1 := h0.2
    rw [getD_right hp] at h1 ⊢
    rcases Nat.lt_or_ge (k - p.length) a.length with ha | ha
    · rw [getD_left (by omega)]
      have := hb (k - p.length) ha
      rw [show p.length + (k - p.length) = k by omega] at this
      exact this
    · rw [getD_right (by omega), hl]
      rw [getD_right ha] at h1
      exact h1
theorem CellsRel.part {φ : Prot} {p a q : List Val} {cs : List Value} (h : CellsRel φ (p ++ (a ++ q)) cs) : CellsRel φ a ((cs.drop p.length).take a.length) := by
  have h1 := h.1
  simp only [List.length_append] at h1
  refine ⟨by rw [List.length_take, List.length_drop]; omega, fun k hk => ?_⟩
  have h0 := h.2 (p.length + k) (by simp; omega)
  rw [List.getD_eq_getElem?_getD, List.getD_eq_getElem?_getD, List.getElem?_append_right (by omega), Nat.add_sub_cancel_left, List.getElem?_append_left hk] at h0
  rw [List.getD_eq_getElem?_getD, List.getD_eq_getElem?_getD, List.getElem?_take, if_pos hk, List.getElem?_drop]
  exact h0
/-- what is said of a definition's weight -/
structure DefW (P : Program) (tD tS tSI tI tSS tE t7 tSP tP : TypeId) : Prop where
  d : ∃ fs, P.underlying tD = some (.struct fs) ∧ (fs.toList.map (·.type))[1]? = some tS ∧ (fs.toList.map (·.type))[3]? = some tSP
  s : ∃ fs, P.underlying tS = some (.struct fs) ∧ (fs.toList.map (·.type))[2]? = some tSI ∧ (fs.toList.map (·.type))[3]? = some tSS
  si : P.underlying tSI = some (.slice tI)
  bi : P.bytesOf tI = 232
  i : ∃ fs, P.underlying tI = some (.struct fs) ∧ (fs.toList.map (·.type))[5]? = some tE
  ss : P.underlying tSS = some (.slice tS)
  sp : P.underlying tSP = some (.slice tP)
  p : ∃ fs, P.underlying tP = some (.struct fs) ∧ (fs.toList.map (·.type))[1]? = some tE
  xw : XW P tE t7
section
variable {H : Type} {P : Program} {φ : Prot} {T : TypeId → TD} {tD tS tSI tI tSS tE t7 tSP tP tT tStep : TypeId} {bulk : DataW H → Nat}
abbrev light (P : Program) (t : TypeId) (dd : DataW H) : Prop := (dd.weights P t).all (· ≤ reachBytes) = true
theorem light_agg {t : TypeId} {fs : Array Field} {parts : List (DataW H)} (hfs : P.underlying t = some (.struct fs)) (h : light P t (.agg parts)) {i : Nat} {t' : TypeId} {d : DataW H} (h1 : (fs.toList.map (·.type))[i]? = some t') (h2 : parts[i]? = some d) : light P t' d := by
  unfold light at h
  simp only [DataW.weights, hfs] at h
  exact weightsEach_get h i t' d h1 h2
theorem light_slice {t e : TypeId} {elems spare : List (DataW H)} (hs : P.underlying t = some (.slice e)) (h : light P t (.slice elems spare)) : (elems.length + spare.length) * P.bytesOf e ≤ reachBytes ∧ ∀ i (hi : i < elems.length), light P e elems[i] := by
  unfold light at h
  simp only [DataW.weights, hs, List.all_cons, List.all_append, Bool.and_eq_true, decide_eq_true_eq] at h
  exact ⟨h.1, fun i hi => weightsAll_get h.2.1 i hi⟩
/-- light, or of small bulk -/
abbrev lite (P : Program) (bulk : DataW H → Nat) (t : TypeId) (dd : DataW H) : Prop := light P t dd ∨ bulk dd ≤ 1048576
theorem bulk_len (hb : Bulk bulk) : ∀ el : List (DataW H), el.length ≤ (el.map bulk).sum
  | [] => Nat.le_refl _
  | d :: r => by have := hb.one d; have := bulk_len hb r; rw [List.map_cons, List.sum_cons, List.length_cons]; omega
theorem bulk_mem : ∀ {el : List (DataW H)} (i : Nat) (h : i < el.length), bulk el[i] ≤ (el.map bulk).sum
  | [], i, h => absurd h (by simp)
  | d :: r, 0, _ => by rw [List.map_cons, List.sum_cons]; exact Nat.le_add_right _ _
  | d :: r, i + 1, h => by
    have := bulk_mem (el := r) i (by simpa using h)
    rw [List.map_cons, List.sum_cons]
    simp only [List.getElem_cons_succ]
    omega
theorem lite_agg (hb : Bulk bulk) {t : TypeId} {fs : Array Field} {parts : List (DataW H)} (hfs : P.underlying t = some (.struct fs)) (h : lite P bulk t (.agg parts)) {i : Nat} {t' : TypeId} {d : DataW H} (h1 : (fs.toList.map (·.type))[i]? = some t') (h2 : parts[i]? = some d) : lite P bulk t' d := by
  rcases h with h | h
  · exact .inl (light_agg hfs h h1 h2)
  · have := hb.agg parts d (List.mem_of_getElem? h2)
    exact .inr (by omega)
theorem lite_slice (hb : Bulk bulk) {t e : TypeId} {elems spare : List (DataW H)} (hs : P.underlying t = some (.slice e)) (h : lite P bulk t (.slice elems spare)) : ((elems.length + spare.length) * P.bytesOf e ≤ reachBytes ∨ elems.length ≤ 1048576) ∧ ∀ i (hi : i < elems.length), lite P bulk e elems[i] := by
  have h1 := hb.slice elems spare
  have h2 := bulk_len hb elems
  rcases h with h | h
  · exact ⟨.inl (light_slice hs h).1, fun i hi => .inl ((light_slice hs h).2 i hi)⟩
  · exact ⟨.inr (by omega), fun i hi => .inr (by have := bulk_mem (bulk := bulk) i hi; omega)⟩
theorem part_rel {b : List Val} {cs : List Value} {p n : Nat} (h : CellsRel φ b ((cs.drop p).take n)) (hn : b.length = n) : ∀ k, k < n → RelC φ (b.getD k .und) (cs.getD (p + k) undef) := fun k hk => by
  have := (h.2 k (by omega)).2
  rw [List.getD_eq_getElem?_getD (l := List.take n (List.drop p cs)), List.getElem?_take, if_pos hk, List.getElem?_drop, ← List.getD_eq_getElem?_getD] at this
  exact this
theorem bulk_in (hb : Bulk bulk) {n : Nat} {el sp : List (DataW H)} {d : DataW H} {parts : List (DataW H)} (hd : (n = 0 ∧ el = []) ∨ d = .slice el sp) (hn : el.length = n) (hm : d ∈ parts) : n ≤ bulk (.agg parts) := by
  rcases hd with ⟨h, _⟩ | rfl
  · omega
  · have := hb.agg parts _ hm
    have := hb.slice el sp
    have := bulk_len hb el
    omega
end
end Go.AM

set_option linter.unusedVariables false
set_option linter.unusedSimpArgs false
set_option maxRecDepth 100000
namespace Go.AM
open Go.RowKit
section
variable {H : Type} {P : Program} {φ : Prot} {T : TypeId → TD} {tD tS tSI tI tSS tE t7 tSP tP tSe tL : TypeId} {bulk : DataW H → Nat}
theorem open_itB (hE : T tE = tdX tE 176) (hw : DefW P tD tS tSI tI tSS tE t7 tSP tP) (hb : Bulk bulk) : ∀ (fuel : Nat) (vs : List Val) (cs : List Value) (dd : DataW H), TyD T fuel (tdIt tE 176) vs dd → CellsRel φ vs cs → ∃ x : It, ((lite P bulk tI dd → x.Ok) ∧ cntX x.expr ≤ bulk dd) ∧ CellsRel φ (cIt x) cs := by
  intro fuel vs cs dd hty hc
  cases fuel with
  | zero => exact hty.elim
  | succ f =>
    rw [TyD, TyDS] at hty
    obtain ⟨parts, rfl, hty⟩ := hty
    obtain ⟨a0, r0, d0, q0, e0, g0, t0, hty⟩ := tyDF_cons hty
    obtain ⟨a1, r1, d1, q1, e1, g1, t1, hty⟩ := tyDF_cons hty
    obtain ⟨a2, r2, d2, q2, e2, g2, t2, hty⟩ := tyDF_cons hty
    obtain ⟨a3, r3, d3, q3, e3, g3, t3, hty⟩ := tyDF_cons hty
    obtain ⟨a4, r4, d4, q4, e4, g4, t4, hty⟩ := tyDF_cons hty
    obtain ⟨a5, r5, d5, q5, e5, g5, t5, hty⟩ := tyDF_cons hty
    obtain ⟨z1, z2⟩ := tyDF_nil hty
    obtain ⟨n, rfl, hn⟩ := tyDS_str t0
    obtain ⟨k, rfl, hk⟩ := tyDS_i64 t1
    rw [TyDS] at t2
    obtain ⟨pp, rfl, t2⟩ := t2
    obtain ⟨b0, s0, c0, y0, f0, i0, u0, t2⟩ := tyDF_cons t2
    obtain ⟨b1, s1, c1, y1, f1, i1, u1, t2⟩ := tyDF_cons t2
    obtain ⟨w1, w2⟩ := tyDF_nil t2
    obtain ⟨tk, rfl, htk⟩ := tyDS_i64 u0
    obtain ⟨ts, rfl, hts⟩ := tyDS_i64 u1
    obtain ⟨nd, rfl⟩ := tyDS_bool t3
    obtain ⟨p, rfl, hp⟩ := tyDS_i64 t4
    subst z1 z2 w1 w2 i1 i0 f1 f0 g5 g4 g3 g2 g1 g0 e5 e4 e3 e2 e1 e0
    have hx : TyD T (f + 1) (tdX tE 176) a5 d5 := by rw [TyD]; exact t5
    have hc' : CellsRel φ ([.str n, .int .i64 k, .int .i64 tk, .int .i64 ts, .bool nd, .int .i64 p] ++ a5) cs := by simpa using hc
    obtain ⟨x, ⟨hxw, hxc0, hxl⟩, hxc⟩ := open_xpD hE hw.xw hb (f + 1) a5 _ d5 hx hc'.drop
    obtain ⟨fs, hfs, h5⟩ := hw.i
    have hbx := hb.agg [d0, d1, .agg [c0, c1], d3, d4, d5] d5 (by simp)
    exact ⟨⟨n, k, tk, ts, nd, p, x⟩, ⟨fun hl => ⟨hxw, (lite_agg hb hfs hl h5 rfl).elim hxl fun h => lens_of_cnt x (Nat.le_trans hxc0 h)⟩, by show cntX x ≤ _; omega⟩, hc'.tail hxc (by have h1 := hxc.1; have h2 := hc'.drop.1; simp only at h1 h2 ⊢; omega)⟩
abbrev tdSe (tI : TypeId) : TD := .struct [.int .i64, .int .i64, .str, .int .i64, .slice tI 23 232]
theorem open_seB (hE : T tE = tdX tE 176) (hI : T tI = tdIt tE 176) (hw : DefW P tD tS tSI tI tSS tE t7 tSP tP) (hse : ∃ fs, P.underlying tSe = some (.struct fs) ∧ (fs.toList.map (·.type))[4]? = some tSI) (hb : Bulk bulk) : ∀ (fuel : Nat) (vs : List Val) (cs : List Value) (dd : DataW H), TyD T fuel (tdSe tI) vs dd → CellsRel φ vs cs →
    ∃ x : Se, ((lite P bulk tSe dd → x.Ok) ∧ x.items.length ≤ bulk dd ∧ ∀ i ∈ x.items, cntX i.expr ≤ bulk dd) ∧ CellsRel φ (cSe x) cs := by
  intro fuel vs cs dd hty hc
  cases fuel with
  | zero => exact hty.elim
  | succ f =>
    rw [TyD, TyDS] at hty
    obtain ⟨parts, rfl, hty⟩ := hty
    obtain ⟨a0, r0, d0, q0, e0, g0, t0, hty⟩ := tyDF_cons hty
    obtain ⟨a1, r1, d1, q1, e1, g1, t1, hty⟩ := tyDF_cons hty
    obtain ⟨a2, r2, d2, q2, e2, g2, t2, hty⟩ := tyDF_cons hty
    obtain ⟨a3, r3, d3, q3, e3, g3, t3, hty⟩ := tyDF_cons hty
    obtain ⟨a4, r4, d4, q4, e4, g4, t4, hty⟩ := tyDF_cons hty
    obtain ⟨z1, z2⟩ := tyDF_nil hty
    obtain ⟨p, rfl, hp⟩ := tyDS_i64 t0
    obtain ⟨dp, rfl, hdp⟩ := tyDS_i64 t1
    obtain ⟨n, rfl, hn⟩ := tyDS_str t2
    obtain ⟨m, rfl, hm⟩ := tyDS_i64 t3
    obtain ⟨n1, get1, el1, sp1, rfl, hn1, hd1, hl1, hg1⟩ := tyDS_slice t4
    subst z1 z2 g4 g3 g2 g1 g0 e4 e3 e2 e1 e0
    have hr1 : RelC φ (.ext 23 n1 get1) (cs.getD 4 undef) := (hc.2 4 (by simp)).2
    obtain ⟨its, hi1, hi2, hi3⟩ := rows_relG (enc := cIt) (G := getL cIt) (extL_getL cIt) (fun _ => rfl) (Q := fun i x => ∀ (h : i < el1.length), (lite P bulk tI el1[i] → x.Ok) ∧ cntX x.expr ≤ bulk el1[i]) (fun i hi => (hg1 i (by omega)).1) (fun i cs hi hcs => by
      have h2 := (hg1 i (by omega)).2
      rw [hI] at h2
      obtain ⟨x, h3, h4⟩ := open_itB hE hw hb f (get1 i) cs el1[i] h2 hcs
      exact ⟨x, fun _ => h3, h4⟩) hr1
    have hba := hb.agg [d0, d1, d2, d3, d4] d4 (by simp)
    refine ⟨⟨p, dp, n, m, its⟩, ⟨fun hl => ⟨by show its.length ≤ maxLen; omega, fun i hi => ?_⟩, ?_, fun i hi => ?_⟩, hc.1, fun k hk => ?_⟩
    · obtain ⟨fs, hfs, h5⟩ := hse
      have w2 := lite_agg hb hfs hl h5 rfl
      obtain ⟨j, hj, rfl⟩ := List.mem_iff_getElem.1 (show i ∈ its from hi)
      rcases hd1 with ⟨h0, _⟩ | h0
      · omega
      · rw [h0] at w2
        exact (hi2 j hj (by omega)).1 ((lite_slice hb hw.si w2).2 j (by omega))
    · show its.length ≤ _
      rw [hi1]
      exact bulk_in hb hd1 hl1 (by simp)
    · obtain ⟨j, hj, rfl⟩ := List.mem_iff_getElem.1 (show i ∈ its from hi)
      rcases hd1 with ⟨h0, _⟩ | h0
      · omega
      · have h6 := (hi2 j hj (by omega)).2
        have h7 := bulk_mem (bulk := bulk) (el := el1) j (by omega)
        have h8 := hb.slice el1 sp1
        rw [← h0] at h8
        omega
    · match k, hk with
      | 0, _ => exact hc.2 0 (by simp)
      | 1, _ => exact hc.2 1 (by simp)
      | 2, _ => exact hc.2 2 (by simp)
      | 3, _ => exact hc.2 3 (by simp)
      | 4, _ => exact ⟨(hc.2 4 (by simp)).1, hi3⟩
theorem many_le {bulk : DataW H → Nat} : ∀ (l : List Se) (el : List (DataW H)), l.length = el.length → (∀ i (h : i < l.length) (h' : i < el.length), l[i].items.length ≤ bulk el[i]) → manyN l ≤ (el.map bulk).sum
  | [], _, _, _ => Nat.zero_le _
  | s :: l, [], h, _ => by cases h
  | s :: l, d :: el, h, hi => by
    have h0 := hi 0 (by simp) (by simp)
    have h1 := many_le l el (by simpa using h) (fun i h h' => by have := hi (i + 1) (by simpa using h) (by simpa using h'); simpa using this)
    unfold manyN at h1 ⊢
    simp only [List.map_cons, List.sum_cons, List.getElem_cons_zero] at h0 ⊢
    omega
/-- what a row's contract may ask of sections -/
structure SesOk (l : List Se) (n : Nat) : Prop where
  len : l.length ≤ maxLen
  many : manyN l ≤ n
  cnt : ∀ s ∈ l, ∀ i ∈ s.items, cntX i.expr ≤ n
theorem open_sesB (hE : T tE = tdX tE 176) (hI : T tI = tdIt tE 176) (hS : T tSe = tdSe tI) (hw : DefW P tD tS tSI tI tSS tE t7 tSP tP) (hse : ∃ fs, P.underlying tSe = some (.struct fs) ∧ (fs.toList.map (·.type))[4]? = some tSI) (hL : P.underlying tL = some (.slice tSe)) (hb : Bulk bulk) : ∀ (fuel by_ : Nat) (vs : List Val) (cs : List Value) (dd : DataW H), TyD T fuel (.slice tSe 5 by_) vs dd → CellsRel φ vs cs →
    ∃ l : List Se, ((lite P bulk tL dd → ∀ s ∈ l, s.Ok) ∧ SesOk l (bulk dd)) ∧ CellsRel φ [eL 5 cSe l] cs := by
  intro fuel by_ vs cs dd hty hc
  cases fuel with
  | zero => exact hty.elim
  | succ f =>
    rw [TyD] at hty
    obtain ⟨n1, get1, el1, sp1, rfl, hn1, hd1, hl1, hg1⟩ := tyDS_slice hty
    have hr1 : RelC φ (.ext 5 n1 get1) (cs.getD 0 undef) := (hc.2 0 (by simp)).2
    obtain ⟨l, hi1, hi2, hi3⟩ := rows_relG (enc := cSe) (G := getL cSe) (extL_getL cSe) (fun _ => rfl) (Q := fun i x => ∀ (h : i < el1.length), (lite P bulk tSe el1[i] → x.Ok) ∧ x.items.length ≤ bulk el1[i] ∧ ∀ y ∈ x.items, cntX y.expr ≤ bulk el1[i]) (fun i hi => (hg1 i (by omega)).1) (fun i cs hi hcs => by
      have h2 := (hg1 i (by omega)).2
      rw [hS] at h2
      obtain ⟨x, h3, h4⟩ := open_seB hE hI hw hse hb f (get1 i) cs el1[i] h2 hcs
      exact ⟨x, fun _ => h3, h4⟩) hr1
    refine ⟨l, ⟨fun hl s hs => ?_, ⟨by omega, ?_, fun s hs => ?_⟩⟩, hc.1, fun k hk => ?_⟩
    · obtain ⟨j, hj, rfl⟩ := List.mem_iff_getElem.1 hs
      rcases hd1 with ⟨h0, _⟩ | h0
      · omega
      · rw [h0] at hl
        exact (hi2 j hj (by omega)).1 ((lite_slice hb hL hl).2 j (by omega))
    · rcases hd1 with ⟨h0, _⟩ | h0
      · obtain rfl : l = [] := List.eq_nil_of_length_eq_zero (by omega)
        exact Nat.zero_le _
      · have h1 := many_le (bulk := bulk) l el1 (by omega) (fun i h h' => (hi2 i h h').2.1)
        have h8 := hb.slice el1 sp1
        rw [← h0] at h8
        omega
    · obtain ⟨j, hj, rfl⟩ := List.mem_iff_getElem.1 hs
      rcases hd1 with ⟨h0, _⟩ | h0
      · omega
      · intro i hi
        have h6 := (hi2 j hj (by omega)).2.2 i hi
        have h7 := bulk_mem (bulk := bulk) (el := el1) j (by omega)
        have h8 := hb.slice el1 sp1
        rw [← h0] at h8
        omega
    · match k, hk with
      | 0, _ => exact ⟨(hc.2 0 (by simp)).1, hi3⟩
end
end Go.AM

