/- An expression, read from a row's argument. -/
import Derived.Test.YtlbocjcponegcaaGreatAmHh
import Derived.Test.YtlbocjcponegcaaGreatAmHj
set_option linter.unusedVariables false
set_option linter.unusedSimpArgs false
set_option maxRecDepth 100000
namespace Go.AM
abbrev tdVal : TD := .struct [.int .i64, .struct [.bool, .arr 4 (.int .u64), .int .i64], .bool, .str, .int .i64]
abbrev tdX (e : TypeId) (by_ : Nat) : TD := .struct [.int .i64, .int .i64, .str, .str, tdVal, .int .i64, .int .i64, .slice e 17 by_]
structure Xp.wf1 (x : Xp) : Prop where
  kind : I64 x.kind
  op : I64 x.op
  name : x.name.size ≤ maxLen
  sect : x.sect.size ≤ maxLen
  val : x.val.wf
  scale : I64 x.scale
  pol : I64 x.pol
  len : x.args.length ≤ maxLen
inductive Xp.Wf : Xp → Prop
  | mk (x : Xp) (h : x.wf1) (ha : ∀ y, y ∈ x.args → Xp.Wf y) : Xp.Wf x
theorem Xp.Wf.one {x : Xp} (h : x.Wf) : x.wf1 := by cases h; assumption
theorem Xp.Wf.arg {x y : Xp} (h : x.Wf) (hy : y ∈ x.args) : y.Wf := by cases h with | mk _ _ ha => exact ha y hy
theorem pick_list {α : Type} {Q : Nat → α → Prop} : ∀ {n : Nat}, (∀ i, i < n → ∃ a, Q i a) → ∃ l : List α, l.length = n ∧ ∀ i (h : i < l.length), Q i l[i]
  | 0, _ => ⟨[], rfl, fun i h => absurd h (by simp)⟩
  | n + 1, h => by
    obtain ⟨l, h1, h2⟩ := pick_list (n := n) (fun i hi => h i (by omega))
    obtain ⟨a, ha⟩ := h n (by omega)
    refine ⟨l ++ [a], by simp [h1], fun i hi => ?_⟩
    rw [List.length_append, List.length_singleton] at hi
    rcases (by omega : i < l.length ∨ i = l.length) with k | k
    · rw [List.getElem_append_left k]; exact h2 i k
    · subst k
      rw [List.getElem_append_right (by omega)]
      simp only [Nat.sub_self, List.getElem_cons_zero]
      rw [h1]; exact ha
theorem CellsRel.last {φ : Prot} {p : List Val} {a b : Val} {cs : List Value} (h : CellsRel φ (p ++ [a]) cs) (hb : RelC φ b (cs.getD p.length undef)) : CellsRel φ (p ++ [b]) cs := by
  refine ⟨by rw [h.1]; simp, fun k hk => ?_⟩
  have hk' : k < (p ++ [a]).length := by simpa using hk
  obtain ⟨h1, h2⟩ := h.2 k hk'
  refine ⟨h1, ?_⟩
  rcases Nat.lt_or_ge k p.length with hp | hp
  · rw [List.getD_eq_getElem?_getD, List.getElem?_append_left hp] at h2 ⊢; exact h2
  · have : k = p.length := by simp at hk; omega
    subst this
    rw [List.getD_eq_getElem?_getD, List.getElem?_append_right (Nat.le_refl _)]
    simp only [Nat.sub_self, List.getElem?_cons_zero, Option.getD_some]
    exact hb
theorem cE_split (x : Xp) : cE x = [.int .i64 x.kind, .int .i64 x.op, .str x.name, .str x.sect, .int .i64 x.val.kind, .bool x.val.num.neg, .int .u64 (l0 x.val.num.n), .int .u64 (l1 x.val.num.n), .int .u64 (l2 x.val.num.n), .int .u64 (l3 x.val.num.n), .int .i64 x.val.num.scale,
    .bool x.val.flag, .str x.val.text, .int .i64 x.val.err, .int .i64 x.scale, .int .i64 x.pol] ++ [.ext 17 x.args.length (Xp.rows x.args)] := rfl
theorem ext_inv {φ : Prot} {sz n : Nat} {get : Nat → List Val} {u : Value} (h : RelC φ (.ext sz n get) u) : (n = 0 ∧ u = .slice none 0 0) ∨ ∃ (a : Addr) (c : Nat) (vals : Nat → Nat → Value), u = .slice (some a) n c ∧ n ≤ c ∧ (∀ i, i < n → (get i).length = sz) ∧
    (∀ i j, i < n → j < sz → φ (a.add (i * sz + j)) = some (vals i j)) ∧ (∀ i j, i < n → j < sz → plain (vals i j) = true) ∧ ∀ i j, i < n → j < sz → RelC φ ((get i).getD j .und) (vals i j) := by
  cases h with
  | ext _ _ _ a c vals hc hl hφ h1 hr => exact .inr ⟨a, c, vals, rfl, hc, hl, hφ, h1, hr⟩
  | extNil _ _ => exact .inl ⟨rfl, rfl⟩
end Go.AM

set_option linter.unusedVariables false
set_option linter.unusedSimpArgs false
set_option maxRecDepth 100000
namespace Go.AM
/-- A row whose elements are written otherwise. -/
theorem RelC.ext_map {φ : Prot} {sz n : Nat} {g g' : Nat → List Val} {u : Value} (h : RelC φ (.ext sz n g) u) (hl : ∀ i, i < n → (g' i).length = sz) (hm : ∀ i cs, i < n → CellsRel φ (g i) cs → CellsRel φ (g' i) cs) : RelC φ (.ext sz n g') u := by
  rcases ext_inv h with ⟨rfl, rfl⟩ | ⟨a, c, vals, rfl, hc, hl', hφ, h1, hr⟩
  · exact .extNil sz g'
  · refine .ext sz n g' a c vals hc hl hφ h1 fun i j hi hj => ?_
    have pl : CellsRel φ (g i) ((List.range sz).map (vals i)) := by
      refine ⟨by rw [hl' i hi]; simp, fun k hk => ?_⟩
      rw [hl' i hi] at hk
      rw [List.getD_eq_getElem?_getD, List.getElem?_map, List.getElem?_range hk]
      exact ⟨h1 i k hi hk, hr i k hi hk⟩
    have := ((hm i _ hi pl).2 j (by rw [hl i hi]; exact hj)).2
    have e2 : ((List.range sz).map (vals i)).getD j undef = vals i j := by rw [List.getD_eq_getElem?_getD, List.getElem?_map, List.getElem?_range hj]; rfl
    rw [e2] at this; exact this
/-- A row, by its elements. -/
theorem RelC.toL {φ : Prot} {α : Type} {enc : α → List Val} {sz n : Nat} {g : Nat → List Val} {l : List α} {u : Value} (hE : ExtL enc n g l) (hs : ∀ a, (enc a).length = sz) (h : RelC φ (.ext sz n g) u) : RelC φ (eL sz enc l) u := by
  obtain ⟨rfl, hE⟩ := hE
  refine h.ext_map (fun i hi => ?_) fun i cs hi hc => ?_
  · rw [getL_at (List.getElem?_eq_getElem hi)]; exact hs _
  · rw [getL_at (List.getElem?_eq_getElem hi), ← hE i hi]; exact hc
abbrev tdSum : TD := .struct [.int .i64, .int .i64, .int .i64, .int .i64, .int .i64, .arr 5 (.int .u64), .bool, .struct [.bool, .arr 4 (.int .u64), .int .i64], .struct [.bool, .arr 4 (.int .u64), .int .i64]]
abbrev tdNm : TD := .struct [.str, tdVal]
abbrev tdCo : TD := .struct [.struct [.str, .str], .struct [tdSum, .int .i64]]
abbrev tdTb (e : TypeId) (b : Nat) : TD := .struct [.str, .slice e 18 b]
structure Rd.wf (r : Rd) : Prop where
  names : r.names.length ≤ maxLen
  cols : r.cols.length ≤ maxLen
  tabs : r.tabs.length ≤ maxLen
  sums : ∀ c, c ∈ r.cols → I64 c.2.1.rows ∧ I64 c.2.1.filled
def cTbS (t : TbS) : List Val := [.str t.name, .ext 18 t.n t.g]
def TbS.tb (t : TbS) : Tb := ⟨t.name, t.l⟩
section
variable {sl : TypeId → List Val → Prop} {vs : List Val}
theorem tyS_nm (h : TyS sl tdNm vs) : ∃ p : Nm, p.2.wf ∧ vs = cNm p := by
  rw [TyS] at h
  obtain ⟨a0, r0, e0, t0, h⟩ := tyF_cons h
  obtain ⟨a1, r1, e1, t1, h⟩ := tyF_cons h
  obtain ⟨n, rfl, _⟩ := tyS_str t0
  obtain ⟨v, hv, rfl⟩ := tyS_val t1
  have := tyF_nil h
  subst this e1 e0
  exact ⟨(n, v), hv, by simp [cNm]⟩
theorem tyS_co (h : TyS sl tdCo vs) : ∃ p : Co, (I64 p.2.1.rows ∧ I64 p.2.1.filled) ∧ vs = cCo p := by
  rw [TyS] at h
  obtain ⟨a0, r0, e0, t0, h⟩ := tyF_cons h
  obtain ⟨a1, r1, e1, t1, h⟩ := tyF_cons h
  have := tyF_nil h
  rw [TyS] at t0 t1
  obtain ⟨b0, q0, f0, u0, t0⟩ := tyF_cons t0
  obtain ⟨b1, q1, f1, u1, t0⟩ := tyF_cons t0
  have h2 := tyF_nil t0
  obtain ⟨c0, z0, g0, w0, t1⟩ := tyF_cons t1
  obtain ⟨c1, z1, g1, w1, t1⟩ := tyF_cons t1
  have h3 := tyF_nil t1
  obtain ⟨s, rfl, _⟩ := tyS_str u0
  obtain ⟨n, rfl, _⟩ := tyS_str u1
  obtain ⟨m, hm, rfl⟩ := tyS_sum w0
  obtain ⟨k, rfl, _⟩ := tyS_i64 w1
  subst this h2 h3 f1 f0 g1 g0 e1 e0
  exact ⟨((s, n), (m, k)), ⟨hm.rows, hm.filled⟩, by simp [cCo, cCl]⟩
end
theorem ty_tb {T : TypeId → TD} {f : Nat} {e : TypeId} {b : Nat} {vs : List Val} (hS : T e = tdStp) (h : Ty T f (tdTb e b) vs) : ∃ x : TbS, x.ok ∧ vs = cTbS x := by
  cases f with
  | zero => exact h.elim
  | succ f =>
    rw [Ty, TyS] at h
    obtain ⟨a0, r0, e0, t0, h⟩ := tyF_cons h
    obtain ⟨a1, r1, e1, t1, h⟩ := tyF_cons h
    obtain ⟨s, rfl, hs⟩ := tyS_str t0
    obtain ⟨n, get, rfl, hn, hget⟩ := tyS_slice t1
    have := tyF_nil h
    subst this e1 e0
    obtain ⟨l, hl, hw⟩ := list_of (P := Stp.wf) (enc := cSt) (g := get) (n := n) (fun i hi => by
      have h2 := (hget i hi).2
      rw [hS] at h2
      cases f with
      | zero => exact h2.elim
      | succ f => exact tyS_stp (by rw [Ty] at h2; exact h2))
    exact ⟨⟨s, n, get, l⟩, ⟨hl, hn, hw, hs⟩, rfl⟩
theorem cells3 {φ : Prot} {a b c a' b' c' : Val} {cs : List Value} (h : CellsRel φ [a, b, c] cs) (ha : ∀ u, RelC φ a u → RelC φ a' u) (hb : ∀ u, RelC φ b u → RelC φ b' u) (hc : ∀ u, RelC φ c u → RelC φ c' u) : CellsRel φ [a', b', c'] cs := by
  refine ⟨h.1, fun k hk => ?_⟩
  match k, hk with
  | 0, _ => exact ⟨(h.2 0 (by simp)).1, ha _ (h.2 0 (by simp)).2⟩
  | 1, _ => exact ⟨(h.2 1 (by simp)).1, hb _ (h.2 1 (by simp)).2⟩
  | 2, _ => exact ⟨(h.2 2 (by simp)).1, hc _ (h.2 2 (by simp)).2⟩
theorem tabs_rel {φ : Prot} {n : Nat} {g : Nat → List Val} {l : List TbS} {u : Value} (hE : ExtL cTbS n g l) (hw : ∀ x, x ∈ l → x.ok) (h : RelC φ (.ext 2 n g) u) : RelC φ (eL 2 cTb (l.map TbS.tb)) u := by
  obtain ⟨rfl, hE⟩ := hE
  have key : RelC φ (.ext 2 l.length (getL cTb (l.map TbS.tb))) u := by
    refine h.ext_map (fun i hi => ?_) fun i cs hi hc => ?_
    · rw [getL_at (x := (l[i]).tb) (by rw [List.getElem?_map, List.getElem?_eq_getElem hi]; rfl)]; rfl
    · rw [getL_at (x := (l[i]).tb) (by rw [List.getElem?_map, List.getElem?_eq_getElem hi]; rfl)]
      rw [hE i hi] at hc
      have hx := (hw _ (List.getElem_mem hi)).ext
      generalize l[i] = x at *
      exact CellsRel.last (p := [.str x.name]) (a := .ext 18 x.n x.g) (b := eL 18 cSt x.l) hc (RelC.toL hx (fun _ => rfl) (hc.2 1 (by simp [cTbS])).2)
  have e : (l.map TbS.tb).length = l.length := by simp
  unfold eL
  rw [e]; exact key
theorem open_rd {φ : Prot} {T : TypeId → TD} {eN eC eT eS : TypeId} {bN bC bT bS : Nat} (hN : T eN = tdNm) (hC : T eC = tdCo) (hT : T eT = tdTb eS bS) (hS : T eS = tdStp) {fuel : Nat} {vs : List Val} {cs : List Value}
    (hty : Ty T fuel (.struct [.slice eN 11 bN, .slice eC 26 bC, .slice eT 2 bT]) vs) (hc : CellsRel φ vs cs) : ∃ r : Rd, r.wf ∧ CellsRel φ [eL 11 cNm r.names, eL 26 cCo r.cols, eL 2 cTb r.tabs] cs := by
  cases fuel with
  | zero => exact hty.elim
  | succ f =>
    rw [Ty, TyS] at hty
    obtain ⟨a0, r0, e0, t0, hty⟩ := tyF_cons hty
    obtain ⟨a1, r1, e1, t1, hty⟩ := tyF_cons hty
    obtain ⟨a2, r2, e2, t2, hty⟩ := tyF_cons hty
    have := tyF_nil hty
    obtain ⟨n0, g0, rfl, m0, k0⟩ := tyS_slice t0
    obtain ⟨n1, g1, rfl, m1, k1⟩ := tyS_slice t1
    obtain ⟨n2, g2, rfl, m2, k2⟩ := tyS_slice t2
    subst this e2 e1 e0
    obtain ⟨l0, h0, w0⟩ := list_of (P := fun p : Nm => p.2.wf) (enc := cNm) (g := g0) (n := n0) (fun i hi => by
      have h2 := (k0 i hi).2
      rw [hN] at h2
      cases f with
      | zero => exact h2.elim
      | succ f => exact tyS_nm (by rw [Ty] at h2; exact h2))
    obtain ⟨l1, h1, w1⟩ := list_of (P := fun p : Co => I64 p.2.1.rows ∧ I64 p.2.1.filled) (enc := cCo) (g := g1) (n := n1) (fun i hi => by
      have h2 := (k1 i hi).2
      rw [hC] at h2
      cases f with
      | zero => exact h2.elim
      | succ f => exact tyS_co (by rw [Ty] at h2; exact h2))
    obtain ⟨l2, h2, w2⟩ := list_of (P := TbS.ok) (enc := cTbS) (g := g2) (n := n2) (fun i hi => by
      have h2 := (k2 i hi).2
      rw [hT] at h2
      exact ty_tb hS h2)
    refine ⟨⟨l0, l1, l2.map TbS.tb⟩, ⟨by rw [← h0.1] at m0; exact m0, by rw [← h1.1] at m1; exact m1, by rw [← h2.1] at m2; simpa using m2, w1⟩, ?_⟩
    exact cells3 hc (fun u hu => RelC.toL h0 (fun _ => rfl) hu) (fun u hu => RelC.toL h1 (fun _ => rfl) hu) (fun u hu => tabs_rel h2 w2 hu)
theorem putAll_mem {κ α : Type} [DecidableEq κ] {q : κ × α} : ∀ {l m : List (κ × α)}, q ∈ putAll m l → q ∈ m ∨ q ∈ l
  | [], _, h => .inl h
  | p :: l, m, h => by
    rcases putAll_mem (l := l) (m := aput p.1 p.2 m) h with h | h
    · rcases aput_mem h with h | h
      · exact .inr (by rw [h]; exact List.mem_cons_self ..)
      · exact .inl h
    · exact .inr (List.mem_cons_of_mem _ h)
theorem nilB_t {α : Type} {l : List α} (h : nilB l = true) : l = [] := by cases l with
  | nil => rfl
  | cons a l => cases h
theorem Rd.envOk {r : Rd} (h : r.wf) : EnvOk (nilB r.names) (nilB r.cols) r.env := by
  have hm : maxLen = 9223372036854775807 := by decide
  refine ⟨fun e => ?_, fun e => ?_, ?_, fun c => ?_⟩
  · unfold Rd.env; rw [nilB_t e]; rfl
  · unfold Rd.env; rw [nilB_t e]; rfl
  · have := h.tabs; show r.tabs.length ≤ _; omega
  · show I64' ((aget c (putAll [] r.cols)).getD (Sm0, 0)).1.rows ∧ I64' ((aget c (putAll [] r.cols)).getD (Sm0, 0)).1.filled
    rcases hg : aget c (putAll [] r.cols) with _ | w
    · exact ⟨⟨by decide, by decide⟩, ⟨by decide, by decide⟩⟩
    · rcases putAll_mem (aget_mem hg) with k | k
      · exact absurd k (by simp)
      · exact h.sums _ k
end Go.AM

