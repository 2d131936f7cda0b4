/- The abstract machine's programs are sound: regions whose order is drawn. -/
import Derived.Test.YtafiechoplbieaaAmHe
set_option linter.unusedVariables false
set_option linter.unusedSimpArgs false
set_option maxRecDepth 100000
namespace Go.AM
noncomputable section
open Go.RowKit

/-! ### what was done of a list of operations: those of D -/
def dTm (D : Nat → Bool) : Nat → List Ent → List Val → List Val
  | _, [], tm => tm
  | k, e :: l, tm => dTm D (k + 1) l (match D k with | true => e.tm tm | false => tm)
def dH (D : Nat → Bool) : Nat → List Ent → (Nat → Blk) → (Nat → Blk)
  | _, [], H => H
  | k, e :: l, H => dH D (k + 1) l (match D k with | true => e.H H | false => H)

theorem putD_get {tm : List Val} {d : Option Tmp} {v : Val} {t : Nat} (h : d ≠ some t) (z : Val) : (putD tm d v).getD t z = tm.getD t z := by
  cases d with
  | none => rfl
  | some x =>
    simp only [putD]
    rw [List.getD_eq_getElem?_getD, List.getElem?_set_ne (fun e => h (by rw [e])), List.getD_eq_getElem?_getD]
theorem putD_length (tm : List Val) (d : Option Tmp) (v : Val) : (putD tm d v).length = tm.length := by cases d <;> simp [putD]
theorem putD_comm (tm : List Val) {d d' : Option Tmp} (v v' : Val) (h : ∀ t, d = some t → d' ≠ some t) : putD (putD tm d v) d' v' = putD (putD tm d' v') d v := by
  cases d with
  | none => cases d' <;> rfl
  | some t => cases d' with
    | none => rfl
    | some t' =>
      simp only [putD]
      exact List.set_comm _ _ (fun e => h t rfl (by rw [e]))
theorem applyF_off : ∀ (u : Upd) (H : Nat → Blk) {b : Nat}, b ∉ u.map Prod.fst → applyF H u b = H b
  | [], _, _, _ => rfl
  | (i, x) :: u, H, b, h => by
    simp only [List.map_cons, List.mem_cons, not_or] at h
    show applyF (setH H i x) u b = _
    rw [applyF_off u _ h.2]
    simp [setH, h.1]
theorem applyF_on : ∀ (u : Upd) (H H' : Nat → Blk) {b : Nat}, b ∈ u.map Prod.fst → applyF H u b = applyF H' u b
  | [], _, _, _, h => by simp at h
  | (i, x) :: u, H, H', b, h => by
    show applyF (setH H i x) u b = applyF (setH H' i x) u b
    by_cases hb : b ∈ u.map Prod.fst
    · exact applyF_on u _ _ hb
    · rw [applyF_off u _ hb, applyF_off u _ hb]
      simp only [List.map_cons, List.mem_cons] at h
      rcases h with h | h
      · simp [setH, h]
      · exact absurd h hb
theorem applyF_comm (H : Nat → Blk) (u u' : Upd) (h : ∀ b, b ∈ u.map Prod.fst → b ∉ u'.map Prod.fst) : applyF (applyF H u) u' = applyF (applyF H u') u := by
  funext b
  by_cases h1 : b ∈ u.map Prod.fst
  · rw [applyF_off u' _ (h b h1)]
    exact applyF_on u _ _ h1
  · rw [applyF_off u _ h1]
    by_cases h2 : b ∈ u'.map Prod.fst
    · exact applyF_on u' _ _ h2
    · rw [applyF_off u' _ h2, applyF_off u' _ h2, applyF_off u _ h1]

/-- Two operations that do not touch what the other writes. -/
structure Apart (all : List Oper) (e e' : Ent) : Prop where
  ops : e.o.apart all.toArray e'.o = true
  ww : ∀ b, b ∈ e.u.map Prod.fst → b ∉ e'.u.map Prod.fst
  wr : ∀ b, b ∈ e.u.map Prod.fst → b ∉ e'.r
  rw_ : ∀ b, b ∈ e.r → b ∉ e'.u.map Prod.fst
theorem Apart.symm {all : List Oper} {e e' : Ent} (h : Apart all e e') : Apart all e' e := by
  refine ⟨?_, fun b h1 h2 => h.ww b h2 h1, fun b h1 h2 => h.rw_ b h2 h1, fun b h1 h2 => h.wr b h2 h1⟩
  obtain ⟨h1, h2, h3⟩ := Oper.apart_spec h.ops
  unfold Oper.apart
  simp only [Bool.and_eq_true]
  constructor
  · cases hd : e'.o.dst with
    | none => rfl
    | some d =>
      simp only [Bool.and_eq_true, Bool.not_eq_true', bne_iff_ne, List.contains_eq_mem, decide_eq_false_iff_not]
      exact ⟨h3 d hd, fun hx => h2 d hx hd⟩
  · cases hd : e.o.dst with
    | none => rfl
    | some d =>
      simp only [Bool.not_eq_true', List.contains_eq_mem, decide_eq_false_iff_not]
      exact h1 d hd
theorem Apart.tm_comm {all : List Oper} {e e' : Ent} (h : Apart all e e') (tm : List Val) : e'.tm (e.tm tm) = e.tm (e'.tm tm) := by
  obtain ⟨_, h2, _⟩ := Oper.apart_spec h.ops
  exact putD_comm tm _ _ h2
theorem Apart.H_comm {all : List Oper} {e e' : Ent} (h : Apart all e e') (H : Nat → Blk) : e'.H (e.H H) = e.H (e'.H H) := applyF_comm H _ _ h.ww

def setD (D : Nat → Bool) (j : Nat) : Nat → Bool := fun i => i == j || D i
section
variable {all : List Oper} {D : Nat → Bool}
theorem dTm_after {e : Ent} {j : Nat} : ∀ {l : List Ent} {k : Nat}, j < k → (∀ i f, l[i]? = some f → D (k + i) = true → Apart all e f) → ∀ tm, dTm (setD D j) k l (e.tm tm) = e.tm (dTm D k l tm)
  | [], _, _, _, _ => rfl
  | f :: l, k, hk, h, tm => by
    have ih := dTm_after (l := l) (k := k + 1) (j := j) (by omega) (fun i g hi hd => h (i + 1) g (by simpa using hi) (by rw [show k + (i + 1) = k + 1 + i by omega]; exact hd))
    have hkj : (k == j) = false := by rw [beq_eq_false_iff_ne]; omega
    simp only [dTm, setD, hkj, Bool.false_or]
    cases hd : D k with
    | true =>
      have := h 0 f rfl (by simpa using hd)
      simp only
      rw [this.tm_comm]; exact ih _
    | false => exact ih _
theorem dH_after {e : Ent} {j : Nat} : ∀ {l : List Ent} {k : Nat}, j < k → (∀ i f, l[i]? = some f → D (k + i) = true → Apart all e f) → ∀ H, dH (setD D j) k l (e.H H) = e.H (dH D k l H)
  | [], _, _, _, _ => rfl
  | f :: l, k, hk, h, H => by
    have ih := dH_after (l := l) (k := k + 1) (j := j) (by omega) (fun i g hi hd => h (i + 1) g (by simpa using hi) (by rw [show k + (i + 1) = k + 1 + i by omega]; exact hd))
    have hkj : (k == j) = false := by rw [beq_eq_false_iff_ne]; omega
    simp only [dH, setD, hkj, Bool.false_or]
    cases hd : D k with
    | true =>
      have := h 0 f rfl (by simpa using hd)
      simp only
      rw [this.H_comm]; exact ih _
    | false => exact ih _
/-- Operation j is done now: as if last. -/
theorem dTm_set {e : Ent} {j : Nat} (hd : D j = false) : ∀ {l : List Ent} {k : Nat}, k ≤ j → l[j - k]? = some e → (∀ i f, l[i]? = some f → j < k + i → D (k + i) = true → Apart all e f) → ∀ tm, dTm (setD D j) k l tm = e.tm (dTm D k l tm)
  | [], _, _, h, _, _ => by simp at h
  | f :: l, k, hk, h, ha, tm => by
    by_cases hkj : k = j
    · subst hkj
      rw [Nat.sub_self] at h
      simp only [List.getElem?_cons_zero, Option.some.injEq] at h; subst h
      have e1 : setD D k k = true := by simp [setD]
      simp only [dTm, e1, hd]
      exact dTm_after (all := all) (by omega) (fun i g hi hdi => ha (i + 1) g (by simpa using hi) (by omega) (by rw [show k + (i + 1) = k + 1 + i by omega]; exact hdi)) tm
    · have e1 : setD D j k = D k := by simp [setD, hkj]
      have h' : l[j - (k + 1)]? = some e := by
        rw [show j - k = (j - (k + 1)) + 1 by omega] at h; simpa using h
      simp only [dTm, e1]
      exact dTm_set hd (by omega) h' (fun i g hi hj hdi => ha (i + 1) g (by simpa using hi) (by omega) (by rw [show k + (i + 1) = k + 1 + i by omega]; exact hdi)) _
theorem dH_set {e : Ent} {j : Nat} (hd : D j = false) : ∀ {l : List Ent} {k : Nat}, k ≤ j → l[j - k]? = some e → (∀ i f, l[i]? = some f → j < k + i → D (k + i) = true → Apart all e f) → ∀ H, dH (setD D j) k l H = e.H (dH D k l H)
  | [], _, _, h, _, _ => by simp at h
  | f :: l, k, hk, h, ha, H => by
    by_cases hkj : k = j
    · subst hkj
      rw [Nat.sub_self] at h
      simp only [List.getElem?_cons_zero, Option.some.injEq] at h; subst h
      have e1 : setD D k k = true := by simp [setD]
      simp only [dH, e1, hd]
      exact dH_after (all := all) (by omega) (fun i g hi hdi => ha (i + 1) g (by simpa using hi) (by omega) (by rw [show k + (i + 1) = k + 1 + i by omega]; exact hdi)) H
    · have e1 : setD D j k = D k := by simp [setD, hkj]
      have h' : l[j - (k + 1)]? = some e := by
        rw [show j - k = (j - (k + 1)) + 1 by omega] at h; simpa using h
      simp only [dH, e1]
      exact dH_set hd (by omega) h' (fun i g hi hj hdi => ha (i + 1) g (by simpa using hi) (by omega) (by rw [show k + (i + 1) = k + 1 + i by omega]; exact hdi)) _

/-- No operation of the list (of those in D) writes the temporary. -/
theorem dTm_get {t : Nat} {z : Val} : ∀ {l : List Ent} {k : Nat} {tm : List Val}, (∀ i f, l[i]? = some f → D (k + i) = true → f.o.dst ≠ some t) → (dTm D k l tm).getD t z = tm.getD t z
  | [], _, _, _ => rfl
  | f :: l, k, tm, h => by
    simp only [dTm]
    rw [dTm_get fun i g hi hd => h (i + 1) g (by simpa using hi) (by rw [show k + (i + 1) = k + 1 + i by omega]; exact hd)]
    cases hd : D k with
    | true => exact putD_get (h 0 f rfl (by simpa using hd)) z
    | false => rfl
theorem dH_get {b : Nat} : ∀ {l : List Ent} {k : Nat} {H : Nat → Blk}, (∀ i f, l[i]? = some f → D (k + i) = true → b ∉ f.u.map Prod.fst) → dH D k l H b = H b
  | [], _, _, _ => rfl
  | f :: l, k, H, h => by
    simp only [dH]
    rw [dH_get fun i g hi hd => h (i + 1) g (by simpa using hi) (by rw [show k + (i + 1) = k + 1 + i by omega]; exact hd)]
    cases hd : D k with
    | true => exact applyF_off _ _ (h 0 f rfl (by simpa using hd))
    | false => rfl
theorem putD_same {tm tm' : List Val} {d : Option Tmp} {v z : Val} {t : Nat} (hl : tm'.length = tm.length) (h : tm'.getD t z = tm.getD t z) : (putD tm' d v).getD t z = (putD tm d v).getD t z := by
  cases d with
  | none => exact h
  | some x =>
    by_cases hx : x = t
    · subst hx
      simp only [putD]
      rcases Nat.lt_or_ge x tm.length with hlt | hge
      · rw [List.getD_eq_getElem?_getD, List.getElem?_set_self (by omega), List.getD_eq_getElem?_getD, List.getElem?_set_self hlt]
      · rw [List.getD_eq_getElem?_getD, List.getElem?_eq_none (by simp; omega), List.getD_eq_getElem?_getD, List.getElem?_eq_none (by simp; omega)]
    · rw [putD_get (by simp [hx]) z, putD_get (by simp [hx]) z]; exact h
/-- The operations before j: those that were left out do not write the temporary. -/
theorem dTm_before {t : Nat} {z : Val} : ∀ {l : List Ent} {k : Nat} {tm tm' : List Val}, tm'.length = tm.length → tm'.getD t z = tm.getD t z → (∀ i f, l[i]? = some f → D (k + i) = false → f.o.dst ≠ some t) → (dTm D k l tm').getD t z = (endTm l tm).getD t z
  | [], _, _, _, _, h, _ => h
  | f :: l, k, tm, tm', hl, h, ha => by
    simp only [dTm, endTm]
    have rest : ∀ i g, l[i]? = some g → D (k + 1 + i) = false → g.o.dst ≠ some t := fun i g hi hd => ha (i + 1) g (by simpa using hi) (by rw [show k + (i + 1) = k + 1 + i by omega]; exact hd)
    cases hd : D k with
    | true => exact dTm_before (by simp [Ent.tm, putD_length, hl]) (putD_same hl h) rest
    | false =>
      refine dTm_before (by simp [Ent.tm, putD_length, hl]) ?_ rest
      show tm'.getD t z = (putD tm f.o.dst f.v).getD t z
      rw [putD_get (ha 0 f rfl (by simpa using hd)) z]; exact h
theorem dH_before {b : Nat} : ∀ {l : List Ent} {k : Nat} {H H' : Nat → Blk}, H' b = H b → (∀ i f, l[i]? = some f → D (k + i) = false → b ∉ f.u.map Prod.fst) → dH D k l H' b = endH l H b
  | [], _, _, _, h, _ => h
  | f :: l, k, H, H', h, ha => by
    simp only [dH, endH]
    have rest : ∀ i g, l[i]? = some g → D (k + 1 + i) = false → b ∉ g.u.map Prod.fst := fun i g hi hd => ha (i + 1) g (by simpa using hi) (by rw [show k + (i + 1) = k + 1 + i by omega]; exact hd)
    cases hd : D k with
    | true =>
      refine dH_before ?_ rest
      simp only [Ent.H]
      by_cases hb : b ∈ f.u.map Prod.fst
      · exact applyF_on _ _ _ hb
      · rw [applyF_off _ _ hb, applyF_off _ _ hb]; exact h
    | false =>
      refine dH_before ?_ rest
      show H' b = applyF H f.u b
      rw [applyF_off _ _ (ha 0 f rfl (by simpa using hd))]; exact h
theorem dTm_append : ∀ {l m : List Ent} {k : Nat} {tm : List Val}, dTm D k (l ++ m) tm = dTm D (k + l.length) m (dTm D k l tm)
  | [], m, k, tm => by simp [dTm]
  | f :: l, m, k, tm => by
    simp only [List.cons_append, dTm, List.length_cons]
    rw [dTm_append, show k + (l.length + 1) = k + 1 + l.length by omega]
theorem dH_append : ∀ {l m : List Ent} {k : Nat} {H : Nat → Blk}, dH D k (l ++ m) H = dH D (k + l.length) m (dH D k l H)
  | [], m, k, H => by simp [dH]
  | f :: l, m, k, H => by
    simp only [List.cons_append, dH, List.length_cons]
    rw [dH_append, show k + (l.length + 1) = k + 1 + l.length by omega]
theorem dTm_all : ∀ {l : List Ent} {k : Nat} {tm : List Val}, (∀ i, i < l.length → D (k + i) = true) → dTm D k l tm = endTm l tm
  | [], _, _, _ => rfl
  | f :: l, k, tm, h => by
    have h0 := h 0 (by simp)
    rw [Nat.add_zero] at h0
    simp only [dTm, endTm, h0]
    exact dTm_all fun i hi => by rw [show k + 1 + i = k + (i + 1) by omega]; exact h (i + 1) (by simpa using hi)
theorem dH_all : ∀ {l : List Ent} {k : Nat} {H : Nat → Blk}, (∀ i, i < l.length → D (k + i) = true) → dH D k l H = endH l H
  | [], _, _, _ => rfl
  | f :: l, k, H, h => by
    have h0 := h 0 (by simp)
    rw [Nat.add_zero] at h0
    simp only [dH, endH, h0]
    exact dH_all fun i hi => by rw [show k + 1 + i = k + (i + 1) by omega]; exact h (i + 1) (by simpa using hi)
theorem dTm_none : ∀ {l : List Ent} {k : Nat} {tm : List Val}, (∀ i, D i = false) → dTm D k l tm = tm
  | [], _, _, _ => rfl
  | f :: l, k, tm, h => by simp only [dTm, h k]; exact dTm_none h
theorem dH_none : ∀ {l : List Ent} {k : Nat} {H : Nat → Blk}, (∀ i, D i = false) → dH D k l H = H
  | [], _, _, _ => rfl
  | f :: l, k, H, h => by simp only [dH, h k]; exact dH_none h
end
end
end Go.AM

set_option linter.unusedVariables false
set_option linter.unusedSimpArgs false
set_option maxRecDepth 100000
namespace Go.AM
noncomputable section
open Go.RowKit

/-! ### what the Bool over a region says -/
def DC (ops : List Oper) (D : Nat → Bool) : Prop := ∀ j o, ops[j]? = some o → D j = true → ∀ e ∈ o.after.toList, Region.binds .any e = true → D e.on = true
theorem orAll_bit {as : List Nat} {i : Nat} : ∀ {es : List Edge}, (orAll as es).testBit i = true → ∃ e ∈ es, Region.binds .any e = true ∧ (i = e.on ∨ (as.getD e.on 0).testBit i = true)
  | [], h => by simp [orAll] at h
  | e :: es, h => by
    unfold orAll at h
    split at h
    · rename_i hb
      rw [Nat.testBit_or, Nat.testBit_or, Nat.testBit_two_pow] at h
      simp only [Bool.or_eq_true, decide_eq_true_eq] at h
      rcases h with (h | h) | h
      · exact ⟨e, by simp, hb, .inl h.symm⟩
      · exact ⟨e, by simp, hb, .inr h⟩
      · obtain ⟨e', h1, h2⟩ := orAll_bit h
        exact ⟨e', by simp [h1], h2⟩
    · obtain ⟨e', h1, h2⟩ := orAll_bit h
      exact ⟨e', by simp [h1], h2⟩
theorem anc_take : ∀ (l : List Oper) (as : List Nat), (anc as l).take as.length = as
  | [], as => by simp [anc]
  | o :: l, as => by
    have := anc_take l (as ++ [orAll as o.after.toList])
    simp only [anc]
    rw [List.length_append] at this
    have h2 := congrArg (List.take as.length) this
    rw [List.take_take] at h2
    simpa using h2
theorem anc_get : ∀ (l : List Oper) (as : List Nat) (j : Nat) (o : Oper), l[j]? = some o → (anc as l).getD (as.length + j) 0 = orAll ((anc as l).take (as.length + j)) o.after.toList
  | [], _, _, _, h => by simp at h
  | p :: l, as, 0, o, h => by
    simp only [List.getElem?_cons_zero, Option.some.injEq] at h; subst h
    simp only [anc, Nat.add_zero]
    have h1 := anc_take l (as ++ [orAll as p.after.toList])
    have h2 : (anc (as ++ [orAll as p.after.toList]) l).take as.length = as := by
      have := congrArg (List.take as.length) h1
      rw [List.take_take] at this
      simpa using this
    rw [h2]
    have h3 : (anc (as ++ [orAll as p.after.toList]) l).getD as.length 0 = ((anc (as ++ [orAll as p.after.toList]) l).take (as ++ [orAll as p.after.toList]).length).getD as.length 0 := by
      rw [List.getD_eq_getElem?_getD, List.getD_eq_getElem?_getD, List.getElem?_take, if_pos (by simp)]
    rw [h3, h1]
    simp [List.getD_eq_getElem?_getD]
  | p :: l, as, j + 1, o, h => by
    have := anc_get l (as ++ [orAll as p.after.toList]) j o (by simpa using h)
    simp only [anc]
    rw [List.length_append] at this
    simp only [List.length_cons, List.length_nil] at this
    rw [show as.length + (j + 1) = as.length + (0 + 1) + j by omega]
    exact this
theorem edgesB_ok {i : Nat} {es : List Edge} (h : edgesB i es = true) : ∀ e ∈ es, Region.binds .any e = true → e.on < i := fun e he hb => by
  have := List.all_eq_true.1 h e he
  simpa [hb] using this
theorem anc_dc {ops : List Oper} {D : Nat → Bool} (hE : ∀ j o, ops[j]? = some o → edgesB j o.after.toList = true) (hD : DC ops D) : ∀ j o, ops[j]? = some o → D j = true → ∀ i, ((anc [] ops).getD j 0).testBit i = true → D i = true := by
  intro j
  induction j using Nat.strongRecOn with
  | _ j ih =>
    intro o ho hj i hi
    have h1 := anc_get ops [] j o ho
    simp only [List.length_nil, Nat.zero_add] at h1
    rw [h1] at hi
    obtain ⟨e, he, hb, h2⟩ := orAll_bit hi
    have hlt := edgesB_ok (hE j o ho) e he hb
    have hDe := hD j o ho hj e he hb
    rcases h2 with rfl | h2
    · exact hDe
    · have hjl : j < ops.length := (List.getElem?_eq_some_iff.1 ho).1
      rw [List.getD_eq_getElem?_getD, List.getElem?_take, if_pos hlt, ← List.getD_eq_getElem?_getD] at h2
      exact ih e.on hlt ops[e.on] (List.getElem?_eq_getElem (by omega)) hDe i h2
theorem meets_false : ∀ {l m : List Nat}, meets l m = false → ∀ b ∈ l, b ∉ m
  | [], _, _, b, hb => by simp at hb
  | x :: l, m, h, b, hb => by
    simp only [meets, Bool.or_eq_false_iff, List.elem_eq_contains, List.contains_eq_mem, decide_eq_false_iff_not] at h
    rcases List.mem_cons.1 hb with e | hb
    · rw [e]; exact h.1
    · exact meets_false h.2 b hb
def PairOk (ops : List Oper) (p o : Oper) (q g : Log) : Prop := p.apart ops.toArray o = true ∧ (∀ b ∈ q.2, b ∉ g.1) ∧ (∀ b ∈ q.2, b ∉ g.2) ∧ ∀ b ∈ q.1, b ∉ g.2
theorem pairB_ok {ops : List Oper} {o : Oper} {g : Log} {a : Nat} : ∀ {ps : List Oper} {qs : List Log} {i : Nat}, pairB ops o g a i ps qs = true → ∀ k p q, ps[k]? = some p → qs[k]? = some q → a.testBit (i + k) = true ∨ PairOk ops p o q g
  | [], _, _, _, k, p, q, h, _ => by simp at h
  | _ :: _, [], _, h, _, _, _, _, _ => by cases h
  | p0 :: ps, q0 :: qs, i, h, k, p, q, hp, hq => by
    simp only [pairB, Bool.and_eq_true] at h
    cases k with
    | zero =>
      simp only [List.getElem?_cons_zero, Option.some.injEq] at hp hq
      subst hp; subst hq
      have := h.1
      simp only [Bool.or_eq_true, Bool.and_eq_true, Bool.not_eq_true'] at this
      rcases this with h1 | ⟨⟨⟨h1, h2⟩, h3⟩, h4⟩
      · exact .inl h1
      · exact .inr ⟨h1, meets_false h2, meets_false h3, meets_false h4⟩
    | succ k =>
      have := pairB_ok h.2 k p q (by simpa using hp) (by simpa using hq)
      rwa [show i + (k + 1) = i + 1 + k by omega]
theorem pairsB_ok {ops : List Oper} {as : List Nat} : ∀ {l : List Oper} {gl : List Log} {done : List Oper} {dl : List Log} {j : Nat}, pairsB ops as done dl j l gl = true → done.length = j → dl.length = j →
    ∀ k o, j ≤ k → (done ++ l)[k]? = some o → edgesB k o.after.toList = true ∧ ∃ g, (dl ++ gl)[k]? = some g ∧ ∀ i p q, i < k → (done ++ l)[i]? = some p → (dl ++ gl)[i]? = some q → (as.getD k 0).testBit i = true ∨ PairOk ops p o q g
  | [], gl, done, dl, j, _, hd, _, k, o, hk, ho => by
    rw [List.append_nil, List.getElem?_eq_none (by omega)] at ho; cases ho
  | _ :: _, [], _, _, _, h, _, _, _, _, _, _ => by cases h
  | o0 :: l, g0 :: gl, done, dl, j, h, hd, hdl, k, o, hk, ho => by
    simp only [pairsB, Bool.and_eq_true] at h
    obtain ⟨⟨h1, h2⟩, h3⟩ := h
    by_cases hkj : k = j
    · subst hkj
      have e1 : (done ++ o0 :: l)[k]? = some o0 := by rw [List.getElem?_append_right (by omega), hd, Nat.sub_self]; rfl
      rw [e1] at ho; injection ho with ho; subst ho
      refine ⟨h1, g0, by rw [List.getElem?_append_right (by omega), hdl, Nat.sub_self]; rfl, fun i p q hi hp hq => ?_⟩
      rw [List.getElem?_append_left (by omega)] at hp hq
      have := pairB_ok h2 i p q hp hq
      rwa [Nat.zero_add] at this
    · have := pairsB_ok h3 (by simp [hd]) (by simp [hdl]) k o (by omega) (by simpa using ho)
      simpa using this
theorem regionB_ok {ops : List Oper} {es : List Ent} (hes : es.map (·.o) = ops) (h : regionB ops ((es.map (·.log)).reverse ++ []) = true) :
    (∀ j o, ops[j]? = some o → edgesB j o.after.toList = true) ∧ ∀ i j e f, i < j → es[i]? = some e → es[j]? = some f → ((anc [] ops).getD j 0).testBit i = true ∨ Apart ops e f := by
  unfold regionB at h
  rw [List.append_nil, List.reverse_reverse] at h
  have key := pairsB_ok h rfl rfl
  simp only [List.nil_append] at key
  refine ⟨fun j o ho => (key j o (Nat.zero_le _) ho).1, fun i j e f hij he hf => ?_⟩
  have ho : ∀ {i : Nat} {e : Ent}, es[i]? = some e → ops[i]? = some e.o := fun {i e} he => by rw [← hes, List.getElem?_map, he]; rfl
  obtain ⟨_, g, hg, hall⟩ := key j f.o (Nat.zero_le _) (ho hf)
  have hl : ∀ {i : Nat} {e : Ent}, es[i]? = some e → (es.map (·.log))[i]? = some e.log := fun {i e} he => by rw [List.getElem?_map, he]; rfl
  rw [hl hf] at hg; injection hg with hg; subst hg
  rcases hall i e.o e.log hij (ho he) (hl he) with h1 | ⟨h1, h2, h3, h4⟩
  · exact .inl h1
  · exact .inr ⟨h1, h3, h2, h4⟩

theorem chain_get {P : Program} {all : List Oper} : ∀ {es : List Ent} {tm : List Val} {H : Nat → Blk} {n j : Nat} {e : Ent}, Chain P all es tm H n → es[j]? = some e →
    EntOk P all e (endTm (es.take j) tm) (endH (es.take j) H) ∧ n ≤ e.n ∧ e.n' ≤ endN es n ∧ ∀ i f, i < j → es[i]? = some f → f.n' ≤ e.n
  | [], _, _, _, _, _, _, h => by simp at h
  | f :: es, tm, H, n, 0, e, hc, h => by
    simp only [List.getElem?_cons_zero, Option.some.injEq] at h; subst h
    obtain ⟨h1, h2, h3⟩ := hc
    refine ⟨h1, by omega, ?_, fun i _ hi => absurd hi (by omega)⟩
    simp only [endN]
    exact endN_le h3
  | f :: es, tm, H, n, j + 1, e, hc, h => by
    obtain ⟨h1, h2, h3⟩ := hc
    obtain ⟨k1, k2, k3, k4⟩ := chain_get h3 (by simpa using h)
    have := h1.2.2.1
    refine ⟨k1, by omega, k3, fun i g hi hg => ?_⟩
    cases i with
    | zero => simp only [List.getElem?_cons_zero, Option.some.injEq] at hg; subst hg; exact k2
    | succ i => exact k4 i g (by omega) (by simpa using hg)
where endN_le {P : Program} {all : List Oper} : ∀ {es : List Ent} {tm : List Val} {H : Nat → Blk} {n : Nat}, Chain P all es tm H n → n ≤ endN es n
  | [], _, _, _, _ => Nat.le_refl _
  | f :: es, tm, H, n, ⟨h1, h2, h3⟩ => by
    have := endN_le h3
    have := h1.2.2.1
    simp only [endN]; omega

theorem mem_looks {ops : Array Oper} {o : Oper} {t : Tmp} (h : Operand.tmp t ∈ o.op.operands) : t ∈ o.looksAt ops := by
  unfold Oper.looksAt
  rw [List.mem_append]
  exact .inl (List.mem_filterMap.2 ⟨_, by simpa using h, rfl⟩)
theorem guard_looks {ops : List Oper} {o : Oper} {g : Nat} {want : Bool} {d : Tmp} (h : o.guard = some (g, want)) (hd : (ops[g]?).bind (·.dst) = some d) : d ∈ o.looksAt ops.toArray := by
  unfold Oper.looksAt
  rw [List.mem_append]
  refine .inr ?_
  simp only [h, List.getElem?_toArray, hd]
  simp

section
variable {P : Program} {ops : List Oper} {es : List Ent} {tm : List Val} {hp hp' : List Blk} {w0 : World} {S : Nat → Prop} {φ0 : Prot} {ι0 : Map} {n : Nat} {Q : Exit → Act → World → Prop}
def StD (w0 : World) (S : Nat → Prop) (φ0 : Prot) (ι0 : Map) (n : Nat) (es : List Ent) (tm : List Val) (hp : List Blk) (D : Nat → Bool) (a : Act) (w : World) : Prop :=
  ∃ ι φ, Inv w0 S φ0 ι φ (dH D 0 es (getH hp)) w ∧ TmOk ι φ (dTm D 0 es tm) a.tmps ∧ (∀ b, hp.length ≤ b → (∀ i e, es[i]? = some e → D i = true → ¬ (e.n ≤ b ∧ b < e.n')) → ι b = none) ∧ (∀ b, b < n → ι b = ι0 b) ∧ a.defers = []

/-- One operation of a region whose order is drawn. -/
theorem draw_step (hes : es.map (·.o) = ops) (hc : Chain P ops es tm (getH hp) hp.length) (hn : n ≤ hp.length) (hE : ∀ j o, ops[j]? = some o → edgesB j o.after.toList = true)
    (hap : ∀ i j e f, i < j → es[i]? = some e → es[j]? = some f → ((anc [] ops).getD j 0).testBit i = true ∨ Apart ops e f) {D : Nat → Bool} (hD : DC ops D) {j : Nat} (hj : j < ops.length) (hDj : D j = false) (hD' : DC ops (setD D j))
    {a : Act} {w : World} (hs : StD w0 S φ0 ι0 n es tm hp D a w) {K : Act → World → Prop} (hK : ∀ a w, StD w0 S φ0 ι0 n es tm hp (setD D j) a w → K a w) : wpOp P ops.toArray Q j K a w := by
  have hlen : es.length = ops.length := by rw [← hes, List.length_map]
  obtain ⟨e, he⟩ : ∃ e, es[j]? = some e := ⟨es[j], List.getElem?_eq_getElem (by omega)⟩
  have hget : ∀ {i : Nat} {e : Ent}, es[i]? = some e → ops[i]? = some e.o := fun {i e} he => by rw [← hes, List.getElem?_map, he]; rfl
  obtain ⟨ι, φ, hI, ht, hfree, h0, hdf⟩ := hs
  obtain ⟨hok, hn0, hend, hbefore⟩ := chain_get hc he
  -- who is apart
  have later : ∀ i f, es[i]? = some f → j < i → D i = true → Apart ops e f := fun i f hf hji hDi => by
    rcases hap j i e f hji he hf with h | h
    · have := anc_dc hE hD i f.o (hget hf) hDi j h
      rw [hDj] at this; cases this
    · exact h
  have earlier : ∀ i f, es[i]? = some f → i < j → D i = false → Apart ops f e := fun i f hf hij hDi => by
    rcases hap i j f e hij hf he with h | h
    · have := anc_dc hE hD' j e.o (hget he) (by simp [setD]) i h
      simp only [setD, hDi, Bool.or_false, beq_iff_eq] at this; omega
    · exact h
  have hsplit : es = es.take j ++ e :: es.drop (j + 1) := by
    have h1 := (List.take_append_drop j es).symm
    have h2 : es.drop j = e :: es.drop (j + 1) := by
      rw [List.drop_eq_getElem_cons (by omega : j < es.length)]
      congr 1
      rw [List.getElem?_eq_getElem (by omega)] at he
      injection he
    rw [h2] at h1; exact h1
  have htl : (es.take j).length = j := by rw [List.length_take]; omega
  have hdrop : ∀ i f, (es.drop (j + 1))[i]? = some f → es[j + 1 + i]? = some f := fun i f hf => by rwa [List.getElem?_drop] at hf
  have htake : ∀ i f, (es.take j)[i]? = some f → i < j ∧ es[i]? = some f := fun i f hf => by
    rw [List.getElem?_take] at hf
    split at hf
    · rename_i h; exact ⟨h, hf⟩
    · cases hf
  have agreeT : ∀ t, t ∈ e.o.looksAt ops.toArray → (dTm D 0 es tm).getD t (.tup []) = (endTm (es.take j) tm).getD t (.tup []) := fun t htl2 => by
    rw [hsplit, dTm_append, htl, Nat.zero_add]
    simp only [dTm, hDj]
    rw [dTm_get fun i f hf hDi => by
      have := later (j + 1 + i) f (hdrop i f hf) (by omega) hDi
      exact fun hd => (Oper.apart_spec this.ops).2.2 t hd htl2]
    have hsimp : (es.take j ++ e :: es.drop (j + 1)).take j = es.take j := by rw [← hsplit]
    rw [hsimp]
    exact dTm_before rfl rfl fun i f hf hDi => by
      obtain ⟨hij, hf⟩ := htake i f hf
      have := earlier i f hf hij (by simpa using hDi)
      exact fun hd => (Oper.apart_spec this.ops).1 t hd htl2
  have agreeH : ∀ b, b ∈ e.r → dH D 0 es (getH hp) b = endH (es.take j) (getH hp) b := fun b hb => by
    rw [hsplit, dH_append, htl, Nat.zero_add]
    simp only [dH, hDj]
    rw [dH_get fun i f hf hDi => by
      have := later (j + 1 + i) f (hdrop i f hf) (by omega) hDi
      exact this.rw_ b hb]
    have hsimp : (es.take j ++ e :: es.drop (j + 1)).take j = es.take j := by rw [← hsplit]
    rw [hsimp]
    exact dH_before rfl fun i f hf hDi => by
      obtain ⟨hij, hf⟩ := htake i f hf
      have := earlier i f hf hij (by simpa using hDi)
      exact fun h => this.wr b h hb
  have hafter : ∀ i f, es[i]? = some f → j < 0 + i → D (0 + i) = true → Apart ops e f := fun i f hf hji hDi => by
    rw [Nat.zero_add] at hji hDi; exact later i f hf hji hDi
  have eT : dTm (setD D j) 0 es tm = e.tm (dTm D 0 es tm) := dTm_set (all := ops) hDj (Nat.zero_le _) (by simpa using he) hafter tm
  have eH : dH (setD D j) 0 es (getH hp) = e.H (dH D 0 es (getH hp)) := dH_set (all := ops) hDj (Nat.zero_le _) (by simpa using he) hafter (getH hp)
  have hw : Region.wanted e.o (yielded ops.toArray a.tmps) = e.on := hok.2.2.2 ι φ a _ ht fun g want d hg hd => agreeT d (guard_looks hg hd)
  have hone : ops.toArray[j]? = some e.o := by rw [List.getElem?_toArray]; exact hget he
  have hnn : e.n ≤ e.n' := hok.2.2.1
  unfold wpOp
  rw [hone]
  simp only
  rw [hw]
  cases hon : e.on with
  | true =>
    rw [if_pos rfl]
    refine .inl (hok.1 hon a w w0 S φ0 ι φ (dH D 0 es (getH hp)) (dTm D 0 es tm) _ _ hI ht (fun x hx => ?_) agreeH (fun b hb1 hb2 => ?_) fun cv w' ι' φ' hv hI' hm hp2 hfr => hK _ _ ?_)
    · cases x with
      | tmp t => simpa [evV, evK, getK_eq] using agreeT t (mem_looks hx)
      | const v => simp [evV, evK]
      | global g => simp [evV, evK]
      | func f => simp [evV, evK]
    · refine hfree b (by omega) fun i f hf hDi ⟨k1, k2⟩ => ?_
      rcases Nat.lt_trichotomy i j with h | h | h
      · have := hbefore i f h hf; omega
      · subst h; rw [hDj] at hDi; cases hDi
      · have := (chain_get hc hf).2.2.2 j e h he; omega
    · refine ⟨ι', φ', by rw [eH]; exact hI', by rw [eT]; exact (ht.mono hm hp2).put _ hv, fun b hb hall => ?_, fun b hb => ?_, by rw [put_defers, hdf]⟩
      · have hnj := hall j e he (by simp [setD])
        rw [hfr b (by omega)]
        exact hfree b hb fun i f hf hDi => hall i f hf (by simp [setD, hDi])
      · rw [hfr b (.inl (by omega))]; exact h0 b hb
  | false =>
    rw [if_neg (by simp)]
    obtain ⟨hv, hu⟩ := hok.2.1 hon
    refine hK _ _ ⟨ι, φ, ?_, ?_, fun b hb hall => hfree b hb fun i f hf hDi => hall i f hf (by simp [setD, hDi]), h0, by rw [put_defers, hdf]⟩
    · rw [eH]; simp only [Ent.H, hu]; exact hI
    · rw [eT]; simp only [Ent.tm, hv]; exact ht.put _ (rel_undef ι φ)

def listD (l : Array Bool) : Nat → Bool := fun i => l.getD i false
theorem draw_any (hes : es.map (·.o) = ops) (hc : Chain P ops es tm (getH hp) hp.length) (hn : n ≤ hp.length) (hE : ∀ j o, ops[j]? = some o → edgesB j o.after.toList = true)
    (hap : ∀ i j e f, i < j → es[i]? = some e → es[j]? = some f → ((anc [] ops).getD j 0).testBit i = true ∨ Apart ops e f)
    (hQ : ∀ a w, StD w0 S φ0 ι0 n es tm hp (fun i => decide (i < ops.length)) a w → Q .normal a w) :
    ∀ (fuel : Nat) (l : Array Bool) (a : Act) (w : World), l.size = ops.length → l.toList.count false ≤ fuel → DC ops (listD l) → StD w0 S φ0 ι0 n es tm hp (listD l) a w → wpAny P .any ops.toArray Q fuel l a w := by
  have hall : ∀ (l : Array Bool), l.size = ops.length → Region.ready .any ops.toArray l = [] → listD l = fun i => decide (i < ops.length) := fun l hl hr => by
    have h1 : ∀ i, i < ops.length → listD l i = true := by
      intro i
      induction i using Nat.strongRecOn with
      | _ i ih =>
        intro hi
        cases hli : listD l i with
        | true => rfl
        | false =>
          have : i ∈ Region.ready .any ops.toArray l := by
            unfold Region.ready
            refine List.mem_filter.2 ⟨List.mem_range.2 (by simpa using hi), ?_⟩
            have e1 : l.getD i true = false := by
              unfold listD at hli
              rw [Array.getD_eq_getD_getElem?, Array.getElem?_eq_getElem (by omega)] at hli ⊢
              exact hli
            have e2 : ops.toArray[i]? = some ops[i] := by rw [List.getElem?_toArray, List.getElem?_eq_getElem hi]
            rw [e1, e2]
            simp only [Bool.not_false, Bool.true_and, Option.map_some, Option.getD_some]
            rw [← Array.all_toList, List.all_eq_true]
            intro e he
            cases hb : Region.binds .any e with
            | false => rfl
            | true =>
              have hlt := edgesB_ok (hE i ops[i] (List.getElem?_eq_getElem hi)) e he hb
              have := ih e.on hlt (by omega)
              simp only [Bool.not_true, Bool.false_or]
              exact this
          rw [hr] at this; cases this
    funext i
    rcases Nat.lt_or_ge i ops.length with h | h
    · rw [h1 i h]; simp [h]
    · unfold listD
      rw [Array.getD_eq_getD_getElem?, Array.getElem?_eq_none (by omega)]
      simp; omega
  intro fuel
  induction fuel with
  | zero =>
    intro l a w hl hcnt hD hs
    have hnil : Region.ready .any ops.toArray l = [] := by
      cases hr : Region.ready .any ops.toArray l with
      | nil => rfl
      | cons x xs =>
        have hx : x ∈ Region.ready .any ops.toArray l := by rw [hr]; simp
        unfold Region.ready at hx
        obtain ⟨h1, h2⟩ := List.mem_filter.1 hx
        have hlt : x < l.size := by have := List.mem_range.1 h1; rw [hl]; simpa using this
        have h3 : l.getD x true = false := by
          rw [Bool.and_eq_true] at h2
          simpa using h2.1
        rw [Array.getD_eq_getD_getElem?, Array.getElem?_eq_getElem hlt] at h3
        have : false ∈ l.toList := by
          simp only [Option.getD_some] at h3
          rw [← h3]; simp
        have := List.count_pos_iff.2 this
        omega
    refine ⟨hnil, hQ a w ?_⟩
    rw [← hall l hl hnil]; exact hs
  | succ fuel ih =>
    intro l a w hl hcnt hD hs
    refine ⟨fun hnil => hQ a w (by rw [← hall l hl hnil]; exact hs), fun j hj => ?_⟩
    unfold Region.ready at hj
    obtain ⟨h1, h2⟩ := List.mem_filter.1 hj
    have hjl : j < ops.length := by simpa using List.mem_range.1 h1
    rw [Bool.and_eq_true] at h2
    have h3 : l[j]? = some false := by
      have h3 := h2.1
      rw [Array.getD_eq_getD_getElem?, Array.getElem?_eq_getElem (by omega)] at h3
      rw [Array.getElem?_eq_getElem (by omega)]
      simpa using h3
    have hDj : listD l j = false := by unfold listD; rw [Array.getD_eq_getD_getElem?, h3]; rfl
    have hset : listD (l.setIfInBounds j true) = setD (listD l) j := by
      funext i
      unfold listD setD
      rw [Array.getD_eq_getD_getElem?, Array.getElem?_setIfInBounds]
      by_cases hij : j = i
      · subst hij; simp [hl, hjl]
      · rw [if_neg hij]
        have : (i == j) = false := by rw [beq_eq_false_iff_ne]; exact fun e => hij e.symm
        rw [this, Bool.false_or]
        exact (Array.getD_eq_getD_getElem? (xs := l) (i := i) (d := false)).symm
    have hD' : DC ops (setD (listD l) j) := by
      intro k o ho hk e he hb
      by_cases hkj : k = j
      · subst hkj
        have e2 : ops.toArray[k]? = some o := by rw [List.getElem?_toArray]; exact ho
        have h4 := h2.2
        rw [e2] at h4
        simp only [Option.map_some, Option.getD_some] at h4
        rw [← Array.all_toList, List.all_eq_true] at h4
        have := h4 e he
        rw [hb] at this
        simp only [Bool.not_true, Bool.false_or] at this
        simp [setD, listD, this]
      · have : listD l k = true := by simpa [setD, hkj] using hk
        simp [setD, hD k o ho this e he hb]
    refine draw_step hes hc hn hE hap hD hjl hDj hD' hs fun a w hs' => ih _ a w (by simpa using hl) ?_ (by rw [hset]; exact hD') (by rw [hset]; exact hs')
    have hmem : l.toList[j]? = some false := by rw [Array.getElem?_toList]; exact h3
    have hlt : j < l.toList.length := (List.getElem?_eq_some_iff.1 hmem).1
    rw [Array.toList_setIfInBounds, List.count_set hlt]
    have h5 : l.toList[j] = false := by rw [List.getElem?_eq_getElem hlt] at hmem; injection hmem
    have hpos : 0 < l.toList.count false := List.count_pos_iff.2 (by rw [← h5]; exact List.getElem_mem _)
    simp [h5]
    simp at hcnt hpos
    omega
end
end
end Go.AM

set_option linter.unusedVariables false
set_option linter.unusedSimpArgs false
set_option maxRecDepth 100000
namespace Go.AM
noncomputable section
open Go.RowKit

theorem hasL_iff : ∀ (c : Code) (l : Nat), hasL c l = (findLabel c l).isSome
  | .seq a b, l => by
    simp only [hasL, findLabel]
    rw [hasL_iff a l, hasL_iff b l]
    cases findLabel a l <;> simp
  | .label l', l => by simp only [hasL, findLabel]; cases l' == l <;> rfl
  | .skip, _ | .region .., _ | .cond .., _ | .block .., _ | .loop .., _ | .rangeFunc .., _ | .exit .., _ | .scope .., _ | .goto .., _ | .ret, _ | .refuse .., _ => rfl

def Ex.to : Ex → Exit
  | .normal => .normal
  | .exit id => .exit id
  | .goto l => .goto l
  | .ret => .ret

section
variable {w0 : World} {S : Nat → Prop} {φ0 : Prot} {ι0 : Map} {n : Nat} {tm : List Val} {hp : List Blk} {a : Act} {w : World}
theorem St.gc (hs : St w0 S φ0 ι0 n tm hp a w) {ks : List Nat} {m : List Bool} (hk : keepB n ks = true) {I : List Val → List Blk → Prop} (h : gcK ks m tm hp I) : ∃ tm' hp', I tm' hp' ∧ St w0 S φ0 ι0 n tm' hp' a w := by
  unfold gcK at h
  rw [pickK_eq] at h
  obtain ⟨ι, φ, hI, ht, hend, h0, hn, hdf⟩ := hs
  obtain ⟨hnd, hpre⟩ := keepB_ok hk
  obtain ⟨tm', h1, h2, h3⟩ := maskK_ok (ι := ι) (ι' := subM ks ι) (φ := φ) subM_under h
  refine ⟨tm', _, h1, subM ks ι, φ, hI.sub hnd, ⟨by rw [h2, ht.len], fun i hi => h3 (fun i => a.tmps.getD i undef) ht.rel i (by rwa [h2] at hi)⟩, fun b hb => subM_ge (by simpa using hb), fun b hb => ?_, ?_, hdf⟩
  · simp only [subM, hpre b hb]; exact h0 b hb
  · rw [List.length_map]
    rcases Nat.eq_zero_or_pos n with h | h
    · omega
    · have := (List.getElem?_eq_some_iff.1 (hpre (n - 1) (by omega))).1; omega
theorem raiseK_eq {α : Type} : ∀ (l : List Blk) (K : List Blk → α), raiseK l K = K (l.map raiseB)
  | [], _ => rfl
  | x :: l, K => by cases x <;> simp only [raiseK, raiseC, raiseB, raiseK_eq l, List.map_cons]
theorem St.raise (hs : St w0 S φ0 ι0 n tm hp a w) : St w0 S φ0 ι0 n tm (hp.map raiseB) a w := by
  obtain ⟨ι, φ, hI, ht, hend, h0, hn, hdf⟩ := hs
  have hg : ∀ b, getH (hp.map raiseB) b = raiseB (getH hp b) := fun b => by
    simp only [getH, List.getD_eq_getElem?_getD, List.getElem?_map]
    cases hp[b]? <;> rfl
  have hgone : ∀ b, getH (hp.map raiseB) b ≠ .gone → getH hp b ≠ .gone := fun b hb e => by rw [hg, e] at hb; exact hb rfl
  refine ⟨ι, φ, ⟨⟨fun b => ?_, fun b b' g c c' hb hb' e e' => hI.sim.inj b b' g c c' (hgone b hb) (hgone b' hb') e e', hI.sim.prot⟩, hI.keep, fun b g c hb e => hI.own b g c (hgone b hb) e, hI.new, hI.le⟩, ht, fun b hb => hend b (by simpa using hb), h0, by simpa using hn, hdf⟩
  rw [hg]
  have hB := hI.sim.blk b
  cases hx : getH hp b with
  | row e sz m g pr =>
    rw [hx] at hB
    obtain ⟨gg, c, arr, e1, hh, hz, hs, hnc, hc, hpr, hl, hr, h1, hf⟩ := hB
    refine ⟨gg, c, arr, e1, hh, hz, hs, hnc, hc, Nat.le_refl _, hl, hr, h1, fun off sp ho => hf off sp ?_⟩
    have : pr * sz ≤ m * sz := Nat.mul_le_mul_right _ hpr
    omega
  | _ => rw [hx] at hB; exact hB
end

section
variable {P : Program} {T : TypeId → TD} {R : Nat → List Oper → Bool} {w0 : World} {S : Nat → Prop} {φ0 : Prot} {ι0 : Map} {n : Nat}
/-- What the abstract run of code gives for the model's. -/
def Sound (P : Program) (T : TypeId → TD) (R : Nat → List Oper → Bool) (w0 : World) (S : Nat → Prop) (φ0 : Prot) (ι0 : Map) (n : Nat) (c : Code) : Prop :=
  ∀ (m : Option Nat) (tm : List Val) (hp : List Blk) (K : Ex → List Val → List Blk → Prop), wp P T R n c m tm hp K → ∀ (Q : Exit → Act → World → Prop) (a : Act) (w : World), St w0 S φ0 ι0 n tm hp a w →
    (∀ e tm hp a w, K e tm hp → St w0 S φ0 ι0 n tm hp a w → Q e.to a w) →
    match m with
    | none => c.wp P Q a w
    | some l => ∃ rest, findLabel c l = some rest ∧ rest.wp P Q a w

theorem draw_sound (hT : TOk P T) (hm : P.follows .mixedOrders = true) {fl : Bool} {id : Nat} {ops : Array Oper} {tm : List Val} {hp : List Blk} {K : List Val → List Blk → Prop} (h : drawK P T fl ops.toList ops.toList tm hp [] fun tm hp lg => Need (regionB ops.toList lg = true) (K tm hp))
    {Q : Exit → Act → World → Prop} {a : Act} {w : World} (hs : St w0 S φ0 ι0 n tm hp a w) (hQ : ∀ tm hp a w, K tm hp → St w0 S φ0 ι0 n tm hp a w → Q .normal a w) : (Code.region id ops true).wp P Q a w := by
  obtain ⟨es, hes, hc, hp', ⟨hreg, hK⟩, hH, hlen, hle⟩ := drawK_ok hT h
  obtain ⟨hE, hap⟩ := regionB_ok hes hreg
  obtain ⟨ι, φ, hI, ht, hend, h0, hn, hdf⟩ := hs
  refine wp_region_any hm ?_
  have hel : es.length = ops.toList.length := by rw [← hes, List.length_map]
  have hlD : listD (Array.replicate ops.size false) = fun _ => false := by
    funext i; unfold listD; rw [Array.getD_eq_getD_getElem?, Array.getElem?_replicate]; split <;> rfl
  have := draw_any (Q := Q) (w0 := w0) (S := S) (φ0 := φ0) (ι0 := ι0) (n := n) hes hc hn hE hap (fun a w ⟨ι, φ, hI, ht, hfree, h0, hdf⟩ => hQ _ hp' a w hK ⟨ι, φ, ?_, ?_, fun b hb => hfree b (by omega) fun i e he _ ⟨_, h2⟩ => ?_, h0, by omega, hdf⟩)
    ops.size (Array.replicate ops.size false) a { w with drawn := w.drawn + 1 } (by simp) (by simp) (by rw [hlD]; intro j o _ h; cases h) ⟨ι, φ, ?_, ?_, fun b hb _ => hend b hb, h0, hdf⟩
  · simpa using this
  · rw [hH]; rw [dH_all fun i hi => by simp; simpa [hel] using hi] at hI; exact hI
  · rw [dTm_all fun i hi => by simp; simpa [hel] using hi] at ht; exact ht
  · have := (chain_get hc he).2.2.1; omega
  · rw [dH_none fun i => by rw [hlD]]; exact hI.drew _
  · rw [dTm_none fun i => by rw [hlD]]; exact ht

theorem wp_sound (hT : TOk P T) (hm : P.follows .mixedOrders = true) : ∀ c : Code, Sound P T R w0 S φ0 ι0 n c := by
  intro c
  induction c with
  | skip =>
    intro m tm hp K h Q a w hs hQ
    cases m with
    | none => exact wp_skip (hQ .normal tm hp a w h hs)
    | some l => exact h.elim
  | region id ops d =>
    intro m tm hp K h Q a w hs hQ
    cases m with
    | some l => exact h.elim
    | none =>
      have g1 : ∀ fl hp, St w0 S φ0 ι0 n tm hp a w → (regK P T fl ops.toList ops.toList tm hp fun tm hp => K .normal tm hp) → (Code.region id ops false).wp P Q a w := fun fl hp hs h => by
        refine wp_region_list ?_
        have := regK_sound hT (all := ops.toList) (Q := Q) h hs fun tm hp a w hk hs => hQ .normal tm hp a w hk hs
        simpa using this
      have g2 : ∀ fl hp, St w0 S φ0 ι0 n tm hp a w → (drawK P T fl ops.toList ops.toList tm hp [] fun tm hp lg => Need (regionB ops.toList lg = true) (K .normal tm hp)) → (Code.region id ops true).wp P Q a w := fun fl hp hs h =>
        draw_sound hT hm (K := K .normal) h hs fun tm hp a w hk hs => hQ .normal tm hp a w hk hs
      unfold wp at h
      cases hR : R id ops.toList with
      | true =>
        rw [hR] at h
        have h : raiseK hp (goK P T true ops.toList d tm K) := h
        rw [raiseK_eq] at h
        cases d with
        | false => exact g1 true _ hs.raise h
        | true => exact g2 true _ hs.raise h
      | false =>
        rw [hR] at h
        have h : goK P T false ops.toList d tm K hp := h
        cases d with
        | false => exact g1 false _ hs h
        | true => exact g2 false _ hs h
  | seq x y ihx ihy =>
    intro m tm hp K h Q a w hs hQ
    have next : ∀ (e : Ex) tm hp a w, thenK (wp P T R n y none) K e tm hp → St w0 S φ0 ι0 n tm hp a w → Exit.then (y.wp P Q) Q e.to a w := fun e tm hp a w h hs => by
      cases e with
      | normal => exact ihy none tm hp K h Q a w hs hQ
      | exit id => exact hQ (.exit id) tm hp a w h hs
      | goto l => exact hQ (.goto l) tm hp a w h hs
      | ret => exact hQ .ret tm hp a w h hs
    cases m with
    | none => exact wp_seq (ihx none tm hp _ h _ a w hs next)
    | some l =>
      unfold wp at h
      split at h
      · obtain ⟨rest, h1, h2⟩ := ihx (some l) tm hp _ h _ a w hs next
        exact ⟨.seq rest y, by simp [findLabel, h1], wp_seq h2⟩
      · rename_i hl
        obtain ⟨rest, h1, h2⟩ := ihy (some l) tm hp _ h _ a w hs hQ
        have : findLabel x l = none := by
          rw [hasL_iff] at hl
          cases hx : findLabel x l with
          | none => rfl
          | some _ => rw [hx] at hl; cases hl
        exact ⟨rest, by simp [findLabel, this, h1], h2⟩
  | cond c x y ihx ihy =>
    intro m tm hp K h Q a w hs hQ
    cases m with
    | some l => exact h.elim
    | none =>
      unfold wp at h
      simp only [evK_eq] at h
      have hs' := hs
      obtain ⟨ι, φ, hI, ht, _⟩ := hs'
      have hv := ht.ev c
      split at h
      · rename_i b e
        rw [e] at hv
        cases b with
        | true => exact wp_cond_true hv.bool_ (ihx none tm hp K (h.yes rfl) Q a w hs hQ)
        | false => exact wp_cond_false hv.bool_ (ihy none tm hp K (h.no rfl) Q a w hs hQ)
      · exact h.elim
  | block id c ih =>
    intro m tm hp K h Q a w hs hQ
    cases m with
    | some l => exact h.elim
    | none =>
      refine wp_block (ih none tm hp _ h _ a w hs fun e tm hp a w hk hs => ?_)
      cases e with
      | normal => exact hQ .normal tm hp a w hk hs
      | exit i =>
        simp only [Ex.to, Exit.inBlock]
        cases hi : i == id with
        | true =>
          simp only [blockK, hi] at hk
          rw [beq_iff_eq] at hi; rw [if_pos hi]; exact hQ .normal tm hp a w hk hs
        | false =>
          simp only [blockK, hi] at hk
          rw [beq_eq_false_iff_ne] at hi; rw [if_neg hi]; exact hQ (.exit i) tm hp a w hk hs
      | goto l => exact hQ (.goto l) tm hp a w hk hs
      | ret => exact hQ .ret tm hp a w hk hs
  | loop c ih =>
    intro m tm hp K h Q a w hs hQ
    cases m with
    | some l => exact h.elim
    | none =>
      have key := h (fun tm hp => ∀ a w, St w0 S φ0 ι0 n tm hp a w → ∀ b k cs, ∃ e a' w', Q e a' w' ∧ Arrives P (lone (b.at a (.code c :: .inLoop c :: k)) cs w) b k cs e a' w')
        (fun ks m tm hp hk hg a w hs => by
          obtain ⟨tm', hp', h1, h2⟩ := hs.gc hk hg
          exact h1 a w h2)
        (fun tm hp h a w hs b k cs => by
          obtain ⟨e, a₁, w₁, hq, harr⟩ := ih none tm hp _ h (Exit.then (fun a w => ∀ b k cs, ∃ e a' w', Q e a' w' ∧ Arrives P (lone (b.at a (.code c :: .inLoop c :: k)) cs w) b k cs e a' w') Q) a w hs (fun e tm hp a w hk hs => by
            cases e with
            | normal => exact fun b k cs => hk a w hs b k cs
            | exit id => exact hQ (.exit id) tm hp a w hk hs
            | goto l => exact hQ (.goto l) tm hp a w hk hs
            | ret => exact hQ .ret tm hp a w hk hs) b (.inLoop c :: k) cs
          cases e with
          | normal =>
            obtain ⟨e₂, a₂, w₂, hq₂, harr₂⟩ := hq b k cs
            exact ⟨e₂, a₂, w₂, hq₂, .of_steps (Steps.trans harr (.one step_inLoop)) harr₂⟩
          | exit id => exact ⟨_, a₁, w₁, hq, .pass (x := .inLoop c) rfl (fun _ _ => .inl (by simp)) harr⟩
          | goto l => exact ⟨_, a₁, w₁, hq, .pass (x := .inLoop c) rfl (fun _ _ => .inl (by simp)) harr⟩
          | ret => exact ⟨_, a₁, w₁, hq, .pass (x := .inLoop c) rfl (fun _ _ => .inl (by simp)) harr⟩
          | panic ch => exact ⟨_, a₁, w₁, hq, .pass (x := .inLoop c) rfl (fun _ _ => .inl (by simp)) harr⟩
          | outgrown => exact ⟨_, a₁, w₁, hq, .pass (x := .inLoop c) rfl (fun _ _ => .inl (by simp)) harr⟩)
        a w hs
      intro b k cs
      obtain ⟨e, a', w', hq, harr⟩ := key b k cs
      exact ⟨e, a', w', hq, .of_steps (.one step_loop) harr⟩
  | scope c ih =>
    intro m tm hp K h Q a w hs hQ
    cases m with
    | some l => exact h.elim
    | none =>
      let Jmp : Nat → Act → World → Prop := fun l a w => ∃ rest, findLabel c l = some rest ∧ ∀ b k cs, ∃ e a' w', Q e a' w' ∧ Arrives P (lone (b.at a (.code rest :: .inScope c :: k)) cs w) b k cs e a' w'
      let Q2 : Exit → Act → World → Prop := fun e a w => match e with
        | .goto l' => Jmp l' a w
        | e => Q e a w
      have post : ∀ (e : Ex) tm hp a w, jumpK (fun l tm hp => ∀ a w, St w0 S φ0 ι0 n tm hp a w → Jmp l a w) K e tm hp → St w0 S φ0 ι0 n tm hp a w → Q2 e.to a w := fun e tm hp a w hk hs => by
        cases e with
        | normal => exact hQ .normal tm hp a w hk hs
        | exit id => exact hQ (.exit id) tm hp a w hk hs
        | goto l => exact hk a w hs
        | ret => exact hQ .ret tm hp a w hk hs
      -- a walk inside the scope, seen from outside
      have out : ∀ (x : Code) (a : Act) (w : World), x.wp P Q2 a w → ∀ b k cs, ∃ e a' w', Q e a' w' ∧ Arrives P (lone (b.at a (.code x :: .inScope c :: k)) cs w) b k cs e a' w' := fun x a w hx b k cs => by
        obtain ⟨e, a₁, w₁, hq, harr⟩ := hx b (.inScope c :: k) cs
        cases e with
        | normal => exact ⟨.normal, a₁, w₁, hq, Steps.trans harr (.one step_inScope)⟩
        | exit id => exact ⟨.exit id, a₁, w₁, hq, fun k' hk => harr k' (by simp [exitTo, hk])⟩
        | goto l' =>
          obtain ⟨rest, hf, hj⟩ := hq
          obtain ⟨e₂, a₂, w₂, hq₂, harr₂⟩ := hj b k cs
          exact ⟨e₂, a₂, w₂, hq₂, .of_steps (harr _ (by simp [gotoIn, hf])) harr₂⟩
        | ret => exact ⟨_, a₁, w₁, hq, harr⟩
        | panic ch => exact ⟨_, a₁, w₁, hq, harr⟩
        | outgrown => exact ⟨_, a₁, w₁, hq, harr⟩
      have key := h (fun l tm hp => ∀ a w, St w0 S φ0 ι0 n tm hp a w → Jmp l a w)
        (fun l ks m tm hp hk hg a w hs => by
          obtain ⟨tm', hp', h1, h2⟩ := hs.gc hk hg
          exact h1 a w h2)
        (fun l tm hp h a w hs => by
          obtain ⟨rest, h1, h2⟩ := ih (some l) tm hp _ h Q2 a w hs post
          exact ⟨rest, h1, out rest a w h2⟩)
      have := ih none tm hp _ key Q2 a w hs post
      intro b k cs
      obtain ⟨e, a', w', hq, harr⟩ := out c a w this b k cs
      exact ⟨e, a', w', hq, .of_steps (.one step_scope) harr⟩
  | exit id =>
    intro m tm hp K h Q a w hs hQ
    cases m with
    | none => exact wp_exit (hQ (.exit id) tm hp a w h hs)
    | some l => exact h.elim
  | label l' =>
    intro m tm hp K h Q a w hs hQ
    cases m with
    | none => exact wp_label (hQ .normal tm hp a w h hs)
    | some l =>
      unfold wp at h
      split at h
      · rename_i hl
        exact ⟨.skip, by simp [findLabel, hl], wp_skip (hQ .normal tm hp a w h hs)⟩
      · exact h.elim
  | goto l' =>
    intro m tm hp K h Q a w hs hQ
    cases m with
    | none => exact wp_goto (hQ (.goto l') tm hp a w h hs)
    | some l => exact h.elim
  | ret =>
    intro m tm hp K h Q a w hs hQ
    cases m with
    | none => exact wp_ret (hQ .ret tm hp a w h hs)
    | some l => exact h.elim
  | rangeFunc f ps x y _ _ => intro m tm hp K h; cases m <;> exact h.elim
  | refuse why => intro m tm hp K h; cases m <;> exact h.elim
end
end
end Go.AM

set_option linter.unusedVariables false
set_option linter.unusedSimpArgs false
set_option maxRecDepth 100000
namespace Go.AM
noncomputable section
open Go.RowKit

section
variable {P : Program} {T : TypeId → TD} {w w0 : World} {S : Nat → Prop} {φ0 : Prot} {ι : Map} {φ : Prot} {H : Nat → Blk}
theorem load_ok {t : TypeId} {va : Val} {ca : Value} (hT : TOk P T) (hi : Inv w0 S φ0 ι φ H w) (hx : Rel ι φ va ca) {v : Val} {u : Upd} {r r' : List Nat} (h : Does (nb (T t) fun d => loadP d va) H r v u r') :
    u = [] ∧ ∃ A cv, ca = .pointer (some A) ∧ (loadVar t A).run P w = .ok cv w ∧ Rel ι φ v cv := by
  replace h := does_nb h
  obtain ⟨hb, h⟩ := h
  have hg := hT.good hb
  unfold Does loadP at h
  have fin : ∀ {A : Addr} {cs : List Val} {off : Nat} {r : List Nat}, ca = .pointer (some A) → Does (fromP (T t) cs off) H r v u r' →
      (∀ j, off + j < cs.length → ∃ u, w.cell? (A.add j) = some u ∧ u.oneCell' = true ∧ Rel ι φ (cs.getD (off + j) .und) u) → u = [] ∧ ∃ A cv, ca = .pointer (some A) ∧ (loadVar t A).run P w = .ok cv w ∧ Rel ι φ v cv := by
    intro A cs off r he hd hc
    obtain ⟨rfl, cv, hrun, hv⟩ := load_sound hg hd hc
    exact ⟨rfl, A, cv, he, hrun, hv⟩
  cases va <;> try exact h.elim
  case ptr b off =>
    obtain ⟨g, c, hm, he⟩ := hx.ptr_
    simp only [Prog.run] at h
    split at h
    · rename_i cs hbk
      have hB := hi.sim.blk b
      rw [hbk] at hB
      obtain ⟨arr, t', _, _, _, hcell⟩ := blk_cell hB hm
      exact fin he h (fun j hj => by rw [add_eq]; exact ⟨_, hcell _ hj⟩)
    · exact h.elim
  case ep b sz i j =>
    obtain ⟨g, c, hm, he⟩ := hx.ep_
    simp only [Prog.run] at h
    split at h
    · rename_i te sz' n get pr hbk
      obtain ⟨hin, h⟩ := h
      split at h
      · rename_i hs
        rw [beq_iff_eq] at hs; subst hs
        have hB := hi.sim.blk b
        rw [hbk] at hB
        obtain ⟨arr, _, h0, _, _, _, _, hl, hcell, _⟩ := blk_row hB hm
        refine fin he h (fun k hk => ?_)
        rw [hl i hin] at hk
        obtain ⟨h1, h2, h3⟩ := hcell i (j + k) hin hk
        rw [add_eq, Nat.add_assoc]
        exact ⟨_, h1, h2, .c h3⟩
      · exact h.elim
    · rename_i cs hbk
      have hB := hi.sim.blk b
      rw [hbk] at hB
      obtain ⟨arr, t', _, _, _, hcell⟩ := blk_cell hB hm
      split at h
      · rename_i hs
        obtain ⟨hlt, h⟩ := h
        simp only [Bool.and_eq_true, beq_iff_eq, Bool.not_eq_true'] at hs
        refine fin (cs := cs) (off := i * sz + j) he (does_one hs.1 hs.2 hlt h) (fun k hk => ?_)
        rw [add_eq]
        exact ⟨_, hcell _ hk⟩
      · exact h.elim
    · exact h.elim
  case rptr cs =>
    obtain ⟨A, vals, he, hφ, h1, hr⟩ := hx.rptr_
    refine fin he h (fun j hj => ?_)
    rw [Nat.zero_add] at hj ⊢
    exact ⟨vals j, hi.sim.prot _ _ (hφ j hj), h1 j hj, .c (hr j hj)⟩

def resOne (tmps : Array Value) : ResultVar → Sem Value
  | .tmp t => pure (tmps.getD t undef)
  | .cell a t => do loadVar t (← asAddr (tmps.getD a undef))
theorem resK_ok {hp : List Blk} {tm : List Val} {a : Act} (hT : TOk P T) (hi : Inv w0 S φ0 ι φ (getH hp) w) (ht : TmOk ι φ tm a.tmps) : ∀ {rs : List ResultVar} {K : List Val → Prop}, resK T tm hp rs K →
    ∃ vs us, K vs ∧ (rs.mapM (resOne a.tmps)).run P w = .ok us w ∧ us.length = vs.length ∧ ∀ i, i < vs.length → Rel ι φ (vs.getD i .und) (us.getD i undef)
  | [], K, h => ⟨[], [], h, by simp, rfl, fun i hi => absurd hi (by simp)⟩
  | .tmp t :: rs, K, h => by
    simp only [resK, getK_eq] at h
    obtain ⟨vs, us, h1, h2, h3, h4⟩ := resK_ok hT hi ht h
    refine ⟨_, a.tmps.getD t undef :: us, h1, ?_, by simp [h3], fun i hi' => ?_⟩
    · rw [List.mapM_cons]; simp only [resOne, Sem.run_bind, Sem.run_pure, Result.andThen_ok, h2]
    · cases i with
      | zero => exact ht.get t
      | succ i => exact h4 i (by simpa using hi')
  | .cell t ty :: rs, K, h => by
    simp only [resK, getK_eq] at h
    obtain ⟨v, u, r, hd, h⟩ := runL_need (G := fun v u _ => match u with
      | [] => resK T tm hp rs fun vs => K (v :: vs)
      | _ => False) h
    obtain ⟨rfl, A, cv, hA, hrun, hv⟩ := load_ok hT hi (ht.get t) hd
    obtain ⟨vs, us, h1, h2, h3, h4⟩ := resK_ok hT hi ht h
    refine ⟨_, cv :: us, h1, ?_, by simp [h3], fun i hi' => ?_⟩
    · rw [List.mapM_cons]
      have : (resOne a.tmps (.cell t ty)).run P w = .ok cv w := by
        simp [resOne, hA, asAddr, hrun]
      simp only [Sem.run_bind, this, Result.andThen_ok, h2, Sem.run_pure]
    · cases i with
      | zero => exact hv
      | succ i => exact h4 i (by simpa using hi')
theorem results_list (fn : Func) (tmps : Array Value) : results fn tmps = (do
    let vs ← fn.results.toList.mapM (resOne tmps)
    pure (if h : vs.toArray.size = 1 then vs.toArray[0] else .tuple vs.toArray)) := by
  have e : results fn tmps = (do
      let vs ← fn.results.mapM (resOne tmps)
      pure (if h : vs.size = 1 then vs[0] else .tuple vs)) := by
    unfold results
    congr 1
  rw [e, Array.mapM_eq_mapM_toList]
  simp
theorem blankK_eq {α : Type} : ∀ (n : Nat) (K : List Val → α), blankK n K = K (List.replicate n (.tup []))
  | 0, _ => rfl
  | n + 1, K => by simp only [blankK, blankK_eq n]; simp [List.replicate_succ]
theorem padK_eq {α : Type} : ∀ (args : List Val) (n : Nat) (K : List Val → α), padK args n K = K (args ++ List.replicate (n - args.length) (.tup []))
  | [], n, K => by simp [padK, blankK_eq]
  | v :: vs, n, K => by
    simp only [padK, padK_eq vs (n - 1)]
    simp only [List.length_cons, List.cons_append]
    rw [show n - 1 - vs.length = n - (vs.length + 1) by omega]
theorem Rel.closedR_ {ι ι' : Map} {φ : Prot} {v : Val} {u : Value} (h : Rel ι φ v u) (hc : closedR v = true) : Rel ι' φ v u := by
  unfold closedR at hc
  split at hc
  · rename_i vs
    obtain ⟨us, rfl, hs, hr⟩ := h.tup_
    exact .tup _ _ hs fun i hi => (hr i hi).closedA_ (closedAs_get hc hi)
  · exact h.closedA_ hc
end

/-- FROM THE ABSTRACT RUN TO THE CONTRACT. -/
theorem ret_of_body {P : Program} {T : TypeId → TD} {f : FuncId} {fn : Func} {c : Code} {args : List Val} {h : List Blk} {v : Val} {h' : List Blk} (R : Nat → List Oper → Bool) (hT : TOk P T) (hm : P.follows .mixedOrders = true)
    (hf : P.funcs[f]? = some fn) (hn : (fn.name == "runtime.NumGoroutine") = false) (hb : fn.body = some c) {k : Nat} {rs : List ResultVar} (hk : fn.ntmps = k) (hr : fn.results.toList = rs) (hbody : body P T R k rs c args h v h') : Ret P f args h v h' := by
  refine ⟨⟨fn, c, hf, hn, hb⟩, fun ι φ w cargs hnone hsim hargs => ?_⟩
  subst hk; subst hr
  unfold body at hbody
  rw [padK_eq] at hbody
  have hI0 : Inv w (handed ι h) φ ι φ (getH h) w := by
    refine ⟨hsim, .refl _ _, fun b g c hb e => .inl ?_, fun a ha => .inl ha, .refl _⟩
    refine ⟨b, c, ?_, hb, e⟩
    rcases Nat.lt_or_ge b h.length with hl | hl
    · exact hl
    · exact absurd (getH_ge hl) hb
  have htm : TmOk ι φ (args ++ List.replicate (fn.ntmps - args.length) (.tup [])) (cargs ++ Array.replicate (fn.ntmps - cargs.size) undef) := by
    refine hargs.app ⟨by simp [hargs.len], fun i hi => ?_⟩
    rw [List.length_replicate] at hi
    have e1 : (List.replicate (fn.ntmps - args.length) (Val.tup [])).getD i .und = .tup [] := by simp [List.getD_eq_getElem?_getD, hi]
    have e2 : (Array.replicate (fn.ntmps - cargs.size) undef).getD i undef = undef := by
      rw [Array.getD_eq_getD_getElem?, Array.getElem?_replicate]; split <;> rfl
    rw [e1, e2]; exact rel_undef ι φ
  refine calls_of_wp hf hb (wp_sound (w0 := w) (S := handed ι h) (φ0 := φ) (ι0 := ι) (n := h.length) hT hm c none _ h _ hbody _ _ _ ⟨ι, φ, hI0, htm, hnone, fun _ _ => rfl, Nat.le_refl _, rfl⟩ fun e tm hp a w' hk hs => ?_)
  have fin : (resK T tm hp fn.results.toList fun vs => tupK vs fun x => endK h.length x hp v h') → a.defers = [] ∧ ∃ cv, (results fn a.tmps).run P w' = .ok cv w' ∧ ∃ cv' ι' φ', Ending.returned cv = .returned cv' ∧ MapLe ι ι' ∧ Inv w (handed ι h) φ ι' φ' (getH h') w' ∧ Rel ι' φ' v cv' ∧ ∀ b, h'.length ≤ b → ι' b = none := fun hk => by
    obtain ⟨ι1, φ1, hI, ht, hend, h0, hn, hdf⟩ := hs
    obtain ⟨vs, us, h1, h2, h3, h4⟩ := resK_ok hT hI ht hk
    -- the value
    have hval : ∃ x cv, endK h.length x hp v h' ∧ (results fn a.tmps).run P w' = .ok cv w' ∧ Rel ι1 φ1 x cv := by
      rw [results_list]
      simp only [Sem.run_bind, h2, Result.andThen_ok, Sem.run_pure]
      unfold tupK at h1
      split at h1
      · rename_i x
        refine ⟨x, _, h1, rfl, ?_⟩
        have h3' : us.length = 1 := h3
        have hl : us.toArray.size = 1 := h3'
        rw [dif_pos hl]
        have := h4 0 (by simp)
        rw [List.getD_eq_getElem?_getD, List.getD_eq_getElem?_getD, List.getElem?_eq_getElem (by omega : 0 < us.length)] at this
        exact this
      · rename_i hne
        refine ⟨_, _, h1, rfl, ?_⟩
        have hl : ¬ us.toArray.size = 1 := by
          intro hl
          have : vs.length = 1 := by rw [← h3]; simpa using hl
          obtain ⟨x, rfl⟩ := List.length_eq_one_iff.1 this
          exact hne x rfl
        rw [dif_neg hl]
        exact .tup _ _ (by simpa using h3) fun i hi => by rw [toArr_getD]; exact h4 i hi
    obtain ⟨x, cv, he, hrun, hx⟩ := hval
    refine ⟨hdf, cv, hrun, cv, ?_⟩
    unfold endK at he
    split at he
    · rename_i hn0 hcl
      obtain ⟨rfl, rfl⟩ := he
      have := hI.sub (ks := []) List.nodup_nil
      exact ⟨subM [] ι1, φ1, rfl, (fun b p e => by rw [hnone b (by omega)] at e; cases e), by simpa using this, hx.closedR_ hcl, fun b _ => subM_ge (by simp)⟩
    · obtain ⟨ks, hkk, rfl, he⟩ := he
      rw [sel_eq] at he
      subst he
      obtain ⟨hnd, hpre⟩ := keepB_ok hkk
      refine ⟨subM ks ι1, φ1, rfl, fun b p e => ?_, hI.sub hnd, hx.ren subM_under, fun b hb => subM_ge (by simpa using hb)⟩
      rcases Nat.lt_or_ge b h.length with hl | hl
      · simp only [subM, hpre b hl]; rw [h0 b hl]; exact e
      · rw [hnone b hl] at e; cases e
  cases e with
  | normal => exact fin hk
  | ret => exact fin hk
  | exit id => exact hk.elim
  | goto l => exact hk.elim
end
end Go.AM

