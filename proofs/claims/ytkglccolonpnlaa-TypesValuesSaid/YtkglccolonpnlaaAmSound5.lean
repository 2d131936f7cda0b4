/- The abstract machine's programs are sound: regions whose order is drawn. -/
import Derived.Test.YtkglccolonpnlaaAmSound4
set_option linter.unusedVariables false
set_option linter.unusedSimpArgs false
set_option maxRecDepth 100000
namespace Go.AM
noncomputable section
open Go.RowKit

/-! ### what was done of a list of operations: those of D -/
def dTm (D : Nat → Bool) : Nat → List Ent → List Val → List Val
  | _, [], tm => tm
  | k, e :: l, tm => dTm D (k + 1) l (match D k with | true => e.tm tm | false => tm)
def dH (D : Nat → Bool) : Nat → List Ent → (Nat → Blk) → (Nat → Blk)
  | _, [], H => H
  | k, e :: l, H => dH D (k + 1) l (match D k with | true => e.H H | false => H)

theorem putD_get {tm : List Val} {d : Option Tmp} {v : Val} {t : Nat} (h : d ≠ some t) (z : Val) : (putD tm d v).getD t z = tm.getD t z := by
  cases d with
  | none => rfl
  | some x =>
    simp only [putD]
    rw [List.getD_eq_getElem?_getD, List.getElem?_set_ne (fun e => h (by rw [e])), List.getD_eq_getElem?_getD]
theorem putD_length (tm : List Val) (d : Option Tmp) (v : Val) : (putD tm d v).length = tm.length := by cases d <;> simp [putD]
theorem putD_comm (tm : List Val) {d d' : Option Tmp} (v v' : Val) (h : ∀ t, d = some t → d' ≠ some t) : putD (putD tm d v) d' v' = putD (putD tm d' v') d v := by
  cases d with
  | none => cases d' <;> rfl
  | some t => cases d' with
    | none => rfl
    | some t' =>
      simp only [putD]
      exact List.set_comm _ _ (fun e => h t rfl (by rw [e]))
theorem applyF_off : ∀ (u : Upd) (H : Nat → Blk) {b : Nat}, b ∉ u.map Prod.fst → applyF H u b = H b
  | [], _, _, _ => rfl
  | (i, x) :: u, H, b, h => by
    simp only [List.map_cons, List.mem_cons, not_or] at h
    show applyF (setH H i x) u b = _
    rw [applyF_off u _ h.2]
    simp [setH, h.1]
theorem applyF_on : ∀ (u : Upd) (H H' : Nat → Blk) {b : Nat}, b ∈ u.map Prod.fst → applyF H u b = applyF H' u b
  | [], _, _, _, h => by simp at h
  | (i, x) :: u, H, H', b, h => by
    show applyF (setH H i x) u b = applyF (setH H' i x) u b
    by_cases hb : b ∈ u.map Prod.fst
    · exact applyF_on u _ _ hb
    · rw [applyF_off u _ hb, applyF_off u _ hb]
      simp only [List.map_cons, List.mem_cons] at h
      rcases h with h | h
      · simp [setH, h]
      · exact absurd h hb
theorem applyF_comm (H : Nat → Blk) (u u' : Upd) (h : ∀ b, b ∈ u.map Prod.fst → b ∉ u'.map Prod.fst) : applyF (applyF H u) u' = applyF (applyF H u') u := by
  funext b
  by_cases h1 : b ∈ u.map Prod.fst
  · rw [applyF_off u' _ (h b h1)]
    exact applyF_on u _ _ h1
  · rw [applyF_off u _ h1]
    by_cases h2 : b ∈ u'.map Prod.fst
    · exact applyF_on u' _ _ h2
    · rw [applyF_off u' _ h2, applyF_off u' _ h2, applyF_off u _ h1]

/-- Two operations that do not touch what the other writes. -/
structure Apart (all : List Oper) (e e' : Ent) : Prop where
  ops : e.o.apart all.toArray e'.o = true
  ww : ∀ b, b ∈ e.u.map Prod.fst → b ∉ e'.u.map Prod.fst
  wr : ∀ b, b ∈ e.u.map Prod.fst → b ∉ e'.r
  rw_ : ∀ b, b ∈ e.r → b ∉ e'.u.map Prod.fst
theorem Apart.symm {all : List Oper} {e e' : Ent} (h : Apart all e e') : Apart all e' e := by
  refine ⟨?_, fun b h1 h2 => h.ww b h2 h1, fun b h1 h2 => h.rw_ b h2 h1, fun b h1 h2 => h.wr b h2 h1⟩
  obtain ⟨h1, h2, h3⟩ := Oper.apart_spec h.ops
  unfold Oper.apart
  simp only [Bool.and_eq_true]
  constructor
  · cases hd : e'.o.dst with
    | none => rfl
    | some d =>
      simp only [Bool.and_eq_true, Bool.not_eq_true', bne_iff_ne, List.contains_eq_mem, decide_eq_false_iff_not]
      exact ⟨h3 d hd, fun hx => h2 d hx hd⟩
  · cases hd : e.o.dst with
    | none => rfl
    | some d =>
      simp only [Bool.not_eq_true', List.contains_eq_mem, decide_eq_false_iff_not]
      exact h1 d hd
theorem Apart.tm_comm {all : List Oper} {e e' : Ent} (h : Apart all e e') (tm : List Val) : e'.tm (e.tm tm) = e.tm (e'.tm tm) := by
  obtain ⟨_, h2, _⟩ := Oper.apart_spec h.ops
  exact putD_comm tm _ _ h2
theorem Apart.H_comm {all : List Oper} {e e' : Ent} (h : Apart all e e') (H : Nat → Blk) : e'.H (e.H H) = e.H (e'.H H) := applyF_comm H _ _ h.ww

def setD (D : Nat → Bool) (j : Nat) : Nat → Bool := fun i => i == j || D i
section
variable {all : List Oper} {D : Nat → Bool}
theorem dTm_after {e : Ent} {j : Nat} : ∀ {l : List Ent} {k : Nat}, j < k → (∀ i f, l[i]? = some f → D (k + i) = true → Apart all e f) → ∀ tm, dTm (setD D j) k l (e.tm tm) = e.tm (dTm D k l tm)
  | [], _, _, _, _ => rfl
  | f :: l, k, hk, h, tm => by
    have ih := dTm_after (l := l) (k := k + 1) (j := j) (by omega) (fun i g hi hd => h (i + 1) g (by simpa using hi) (by rw [show k + (i + 1) = k + 1 + i by omega]; exact hd))
    have hkj : (k == j) = false := by rw [beq_eq_false_iff_ne]; omega
    simp only [dTm, setD, hkj, Bool.false_or]
    cases hd : D k with
    | true =>
      have := h 0 f rfl (by simpa using hd)
      simp only
      rw [this.tm_comm]; exact ih _
    | false => exact ih _
theorem dH_after {e : Ent} {j : Nat} : ∀ {l : List Ent} {k : Nat}, j < k → (∀ i f, l[i]? = some f → D (k + i) = true → Apart all e f) → ∀ H, dH (setD D j) k l (e.H H) = e.H (dH D k l H)
  | [], _, _, _, _ => rfl
  | f :: l, k, hk, h, H => by
    have ih := dH_after (l := l) (k := k + 1) (j := j) (by omega) (fun i g hi hd => h (i + 1) g (by simpa using hi) (by rw [show k + (i + 1) = k + 1 + i by omega]; exact hd))
    have hkj : (k == j) = false := by rw [beq_eq_false_iff_ne]; omega
    simp only [dH, setD, hkj, Bool.false_or]
    cases hd : D k with
    | true =>
      have := h 0 f rfl (by simpa using hd)
      simp only
      rw [this.H_comm]; exact ih _
    | false => exact ih _
/-- Operation j is done now: as if last. -/
theorem dTm_set {e : Ent} {j : Nat} (hd : D j = false) : ∀ {l : List Ent} {k : Nat}, k ≤ j → l[j - k]? = some e → (∀ i f, l[i]? = some f → j < k + i → D (k + i) = true → Apart all e f) → ∀ tm, dTm (setD D j) k l tm = e.tm (dTm D k l tm)
  | [], _, _, h, _, _ => by simp at h
  | f :: l, k, hk, h, ha, tm => by
    by_cases hkj : k = j
    · subst hkj
      rw [Nat.sub_self] at h
      simp only [List.getElem?_cons_zero, Option.some.injEq] at h; subst h
      have e1 : setD D k k = true := by simp [setD]
      simp only [dTm, e1, hd]
      exact dTm_after (all := all) (by omega) (fun i g hi hdi => ha (i + 1) g (by simpa using hi) (by omega) (by rw [show k + (i + 1) = k + 1 + i by omega]; exact hdi)) tm
    · have e1 : setD D j k = D k := by simp [setD, hkj]
      have h' : l[j - (k + 1)]? = some e := by
        rw [show j - k = (j - (k + 1)) + 1 by omega] at h; simpa using h
      simp only [dTm, e1]
      exact dTm_set hd (by omega) h' (fun i g hi hj hdi => ha (i + 1) g (by simpa using hi) (by omega) (by rw [show k + (i + 1) = k + 1 + i by omega]; exact hdi)) _
theorem dH_set {e : Ent} {j : Nat} (hd : D j = false) : ∀ {l : List Ent} {k : Nat}, k ≤ j → l[j - k]? = some e → (∀ i f, l[i]? = some f → j < k + i → D (k + i) = true → Apart all e f) → ∀ H, dH (setD D j) k l H = e.H (dH D k l H)
  | [], _, _, h, _, _ => by simp at h
  | f :: l, k, hk, h, ha, H => by
    by_cases hkj : k = j
    · subst hkj
      rw [Nat.sub_self] at h
      simp only [List.getElem?_cons_zero, Option.some.injEq] at h; subst h
      have e1 : setD D k k = true := by simp [setD]
      simp only [dH, e1, hd]
      exact dH_after (all := all) (by omega) (fun i g hi hdi => ha (i + 1) g (by simpa using hi) (by omega) (by rw [show k + (i + 1) = k + 1 + i by omega]; exact hdi)) H
    · have e1 : setD D j k = D k := by simp [setD, hkj]
      have h' : l[j - (k + 1)]? = some e := by
        rw [show j - k = (j - (k + 1)) + 1 by omega] at h; simpa using h
      simp only [dH, e1]
      exact dH_set hd (by omega) h' (fun i g hi hj hdi => ha (i + 1) g (by simpa using hi) (by omega) (by rw [show k + (i + 1) = k + 1 + i by omega]; exact hdi)) _

/-- No operation of the list (of those in D) writes the temporary. -/
theorem dTm_get {t : Nat} {z : Val} : ∀ {l : List Ent} {k : Nat} {tm : List Val}, (∀ i f, l[i]? = some f → D (k + i) = true → f.o.dst ≠ some t) → (dTm D k l tm).getD t z = tm.getD t z
  | [], _, _, _ => rfl
  | f :: l, k, tm, h => by
    simp only [dTm]
    rw [dTm_get fun i g hi hd => h (i + 1) g (by simpa using hi) (by rw [show k + (i + 1) = k + 1 + i by omega]; exact hd)]
    cases hd : D k with
    | true => exact putD_get (h 0 f rfl (by simpa using hd)) z
    | false => rfl
theorem dH_get {b : Nat} : ∀ {l : List Ent} {k : Nat} {H : Nat → Blk}, (∀ i f, l[i]? = some f → D (k + i) = true → b ∉ f.u.map Prod.fst) → dH D k l H b = H b
  | [], _, _, _ => rfl
  | f :: l, k, H, h => by
    simp only [dH]
    rw [dH_get fun i g hi hd => h (i + 1) g (by simpa using hi) (by rw [show k + (i + 1) = k + 1 + i by omega]; exact hd)]
    cases hd : D k with
    | true => exact applyF_off _ _ (h 0 f rfl (by simpa using hd))
    | false => rfl
theorem putD_same {tm tm' : List Val} {d : Option Tmp} {v z : Val} {t : Nat} (hl : tm'.length = tm.length) (h : tm'.getD t z = tm.getD t z) : (putD tm' d v).getD t z = (putD tm d v).getD t z := by
  cases d with
  | none => exact h
  | some x =>
    by_cases hx : x = t
    · subst hx
      simp only [putD]
      rcases Nat.lt_or_ge x tm.length with hlt | hge
      · rw [List.getD_eq_getElem?_getD, List.getElem?_set_self (by omega), List.getD_eq_getElem?_getD, List.getElem?_set_self hlt]
      · rw [List.getD_eq_getElem?_getD, List.getElem?_eq_none (by simp; omega), List.getD_eq_getElem?_getD, List.getElem?_eq_none (by simp; omega)]
    · rw [putD_get (by simp [hx]) z, putD_get (by simp [hx]) z]; exact h
theorem dTm_length : ∀ {l : List Ent} {k : Nat} {tm : List Val}, (dTm D k l tm).length = tm.length
  | [], _, _ => rfl
  | f :: l, k, tm => by
    simp only [dTm]
    rw [dTm_length]
    cases D k <;> simp [Ent.tm, putD_length]
/-- The operations before j: those that were left out do not write the temporary. -/
theorem dTm_before {t : Nat} {z : Val} : ∀ {l : List Ent} {k : Nat} {tm tm' : List Val}, tm'.length = tm.length → tm'.getD t z = tm.getD t z → (∀ i f, l[i]? = some f → D (k + i) = false → f.o.dst ≠ some t) → (dTm D k l tm').getD t z = (endTm l tm).getD t z
  | [], _, _, _, _, h, _ => h
  | f :: l, k, tm, tm', hl, h, ha => by
    simp only [dTm, endTm]
    have rest : ∀ i g, l[i]? = some g → D (k + 1 + i) = false → g.o.dst ≠ some t := fun i g hi hd => ha (i + 1) g (by simpa using hi) (by rw [show k + (i + 1) = k + 1 + i by omega]; exact hd)
    cases hd : D k with
    | true => exact dTm_before (by simp [Ent.tm, putD_length, hl]) (putD_same hl h) rest
    | false =>
      refine dTm_before (by simp [Ent.tm, putD_length, hl]) ?_ rest
      show tm'.getD t z = (putD tm f.o.dst f.v).getD t z
      rw [putD_get (ha 0 f rfl (by simpa using hd)) z]; exact h
theorem dH_before {b : Nat} : ∀ {l : List Ent} {k : Nat} {H H' : Nat → Blk}, H' b = H b → (∀ i f, l[i]? = some f → D (k + i) = false → b ∉ f.u.map Prod.fst) → dH D k l H' b = endH l H b
  | [], _, _, _, h, _ => h
  | f :: l, k, H, H', h, ha => by
    simp only [dH, endH]
    have rest : ∀ i g, l[i]? = some g → D (k + 1 + i) = false → b ∉ g.u.map Prod.fst := fun i g hi hd => ha (i + 1) g (by simpa using hi) (by rw [show k + (i + 1) = k + 1 + i by omega]; exact hd)
    cases hd : D k with
    | true =>
      refine dH_before ?_ rest
      simp only [Ent.H]
      by_cases hb : b ∈ f.u.map Prod.fst
      · exact applyF_on _ _ _ hb
      · rw [applyF_off _ _ hb, applyF_off _ _ hb]; exact h
    | false =>
      refine dH_before ?_ rest
      show H' b = applyF H f.u b
      rw [applyF_off _ _ (ha 0 f rfl (by simpa using hd))]; exact h
theorem dTm_append : ∀ {l m : List Ent} {k : Nat} {tm : List Val}, dTm D k (l ++ m) tm = dTm D (k + l.length) m (dTm D k l tm)
  | [], m, k, tm => by simp [dTm]
  | f :: l, m, k, tm => by
    simp only [List.cons_append, dTm, List.length_cons]
    rw [dTm_append, show k + (l.length + 1) = k + 1 + l.length by omega]
theorem dH_append : ∀ {l m : List Ent} {k : Nat} {H : Nat → Blk}, dH D k (l ++ m) H = dH D (k + l.length) m (dH D k l H)
  | [], m, k, H => by simp [dH]
  | f :: l, m, k, H => by
    simp only [List.cons_append, dH, List.length_cons]
    rw [dH_append, show k + (l.length + 1) = k + 1 + l.length by omega]
theorem dTm_all : ∀ {l : List Ent} {k : Nat} {tm : List Val}, (∀ i, i < l.length → D (k + i) = true) → dTm D k l tm = endTm l tm
  | [], _, _, _ => rfl
  | f :: l, k, tm, h => by
    have h0 := h 0 (by simp)
    rw [Nat.add_zero] at h0
    simp only [dTm, endTm, h0]
    exact dTm_all fun i hi => by rw [show k + 1 + i = k + (i + 1) by omega]; exact h (i + 1) (by simpa using hi)
theorem dH_all : ∀ {l : List Ent} {k : Nat} {H : Nat → Blk}, (∀ i, i < l.length → D (k + i) = true) → dH D k l H = endH l H
  | [], _, _, _ => rfl
  | f :: l, k, H, h => by
    have h0 := h 0 (by simp)
    rw [Nat.add_zero] at h0
    simp only [dH, endH, h0]
    exact dH_all fun i hi => by rw [show k + 1 + i = k + (i + 1) by omega]; exact h (i + 1) (by simpa using hi)
theorem dTm_none : ∀ {l : List Ent} {k : Nat} {tm : List Val}, (∀ i, D i = false) → dTm D k l tm = tm
  | [], _, _, _ => rfl
  | f :: l, k, tm, h => by simp only [dTm, h k]; exact dTm_none h
theorem dH_none : ∀ {l : List Ent} {k : Nat} {H : Nat → Blk}, (∀ i, D i = false) → dH D k l H = H
  | [], _, _, _ => rfl
  | f :: l, k, H, h => by simp only [dH, h k]; exact dH_none h
end
end
end Go.AM
