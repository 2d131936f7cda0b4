/- The abstract machine's programs are sound: whatever order is drawn. -/
import Derived.Test.YtkglccolonpnlaaAmSound5
set_option linter.unusedVariables false
set_option linter.unusedSimpArgs false
set_option maxRecDepth 100000
namespace Go.AM
noncomputable section
open Go.RowKit

/-! ### what the Bool over a region says -/
def DC (ops : List Oper) (D : Nat → Bool) : Prop := ∀ j o, ops[j]? = some o → D j = true → ∀ e ∈ o.after.toList, Region.binds .any e = true → D e.on = true
theorem orAll_bit {as : List Nat} {i : Nat} : ∀ {es : List Edge}, (orAll as es).testBit i = true → ∃ e ∈ es, Region.binds .any e = true ∧ (i = e.on ∨ (as.getD e.on 0).testBit i = true)
  | [], h => by simp [orAll] at h
  | e :: es, h => by
    unfold orAll at h
    split at h
    · rename_i hb
      rw [Nat.testBit_or, Nat.testBit_or, Nat.testBit_two_pow] at h
      simp only [Bool.or_eq_true, decide_eq_true_eq] at h
      rcases h with (h | h) | h
      · exact ⟨e, by simp, hb, .inl h.symm⟩
      · exact ⟨e, by simp, hb, .inr h⟩
      · obtain ⟨e', h1, h2⟩ := orAll_bit h
        exact ⟨e', by simp [h1], h2⟩
    · obtain ⟨e', h1, h2⟩ := orAll_bit h
      exact ⟨e', by simp [h1], h2⟩
theorem anc_take : ∀ (l : List Oper) (as : List Nat), (anc as l).take as.length = as
  | [], as => by simp [anc]
  | o :: l, as => by
    have := anc_take l (as ++ [orAll as o.after.toList])
    simp only [anc]
    rw [List.length_append] at this
    have h2 := congrArg (List.take as.length) this
    rw [List.take_take] at h2
    simpa using h2
theorem anc_get : ∀ (l : List Oper) (as : List Nat) (j : Nat) (o : Oper), l[j]? = some o → (anc as l).getD (as.length + j) 0 = orAll ((anc as l).take (as.length + j)) o.after.toList
  | [], _, _, _, h => by simp at h
  | p :: l, as, 0, o, h => by
    simp only [List.getElem?_cons_zero, Option.some.injEq] at h; subst h
    simp only [anc, Nat.add_zero]
    have h1 := anc_take l (as ++ [orAll as p.after.toList])
    have h2 : (anc (as ++ [orAll as p.after.toList]) l).take as.length = as := by
      have := congrArg (List.take as.length) h1
      rw [List.take_take] at this
      simpa using this
    rw [h2]
    have h3 : (anc (as ++ [orAll as p.after.toList]) l).getD as.length 0 = ((anc (as ++ [orAll as p.after.toList]) l).take (as ++ [orAll as p.after.toList]).length).getD as.length 0 := by
      rw [List.getD_eq_getElem?_getD, List.getD_eq_getElem?_getD, List.getElem?_take, if_pos (by simp)]
    rw [h3, h1]
    simp [List.getD_eq_getElem?_getD]
  | p :: l, as, j + 1, o, h => by
    have := anc_get l (as ++ [orAll as p.after.toList]) j o (by simpa using h)
    simp only [anc]
    rw [List.length_append] at this
    simp only [List.length_cons, List.length_nil] at this
    rw [show as.length + (j + 1) = as.length + (0 + 1) + j by omega]
    exact this
theorem edgesB_ok {i : Nat} {es : List Edge} (h : edgesB i es = true) : ∀ e ∈ es, Region.binds .any e = true → e.on < i := fun e he hb => by
  have := List.all_eq_true.1 h e he
  simpa [hb] using this
theorem anc_dc {ops : List Oper} {D : Nat → Bool} (hE : ∀ j o, ops[j]? = some o → edgesB j o.after.toList = true) (hD : DC ops D) : ∀ j o, ops[j]? = some o → D j = true → ∀ i, ((anc [] ops).getD j 0).testBit i = true → D i = true := by
  intro j
  induction j using Nat.strongRecOn with
  | _ j ih =>
    intro o ho hj i hi
    have h1 := anc_get ops [] j o ho
    simp only [List.length_nil, Nat.zero_add] at h1
    rw [h1] at hi
    obtain ⟨e, he, hb, h2⟩ := orAll_bit hi
    have hlt := edgesB_ok (hE j o ho) e he hb
    have hDe := hD j o ho hj e he hb
    rcases h2 with rfl | h2
    · exact hDe
    · have hjl : j < ops.length := (List.getElem?_eq_some_iff.1 ho).1
      rw [List.getD_eq_getElem?_getD, List.getElem?_take, if_pos hlt, ← List.getD_eq_getElem?_getD] at h2
      exact ih e.on hlt ops[e.on] (List.getElem?_eq_getElem (by omega)) hDe i h2
theorem meets_false : ∀ {l m : List Nat}, meets l m = false → ∀ b ∈ l, b ∉ m
  | [], _, _, b, hb => by simp at hb
  | x :: l, m, h, b, hb => by
    simp only [meets, Bool.or_eq_false_iff, List.elem_eq_contains, List.contains_eq_mem, decide_eq_false_iff_not] at h
    rcases List.mem_cons.1 hb with e | hb
    · rw [e]; exact h.1
    · exact meets_false h.2 b hb
def PairOk (ops : List Oper) (p o : Oper) (q g : Log) : Prop := p.apart ops.toArray o = true ∧ (∀ b ∈ q.2, b ∉ g.1) ∧ (∀ b ∈ q.2, b ∉ g.2) ∧ ∀ b ∈ q.1, b ∉ g.2
theorem pairB_ok {ops : List Oper} {o : Oper} {g : Log} {a : Nat} : ∀ {ps : List Oper} {qs : List Log} {i : Nat}, pairB ops o g a i ps qs = true → ∀ k p q, ps[k]? = some p → qs[k]? = some q → a.testBit (i + k) = true ∨ PairOk ops p o q g
  | [], _, _, _, k, p, q, h, _ => by simp at h
  | _ :: _, [], _, h, _, _, _, _, _ => by cases h
  | p0 :: ps, q0 :: qs, i, h, k, p, q, hp, hq => by
    simp only [pairB, Bool.and_eq_true] at h
    cases k with
    | zero =>
      simp only [List.getElem?_cons_zero, Option.some.injEq] at hp hq
      subst hp; subst hq
      have := h.1
      simp only [Bool.or_eq_true, Bool.and_eq_true, Bool.not_eq_true'] at this
      rcases this with h1 | ⟨⟨⟨h1, h2⟩, h3⟩, h4⟩
      · exact .inl h1
      · exact .inr ⟨h1, meets_false h2, meets_false h3, meets_false h4⟩
    | succ k =>
      have := pairB_ok h.2 k p q (by simpa using hp) (by simpa using hq)
      rwa [show i + (k + 1) = i + 1 + k by omega]
theorem pairsB_ok {ops : List Oper} {as : List Nat} : ∀ {l : List Oper} {gl : List Log} {done : List Oper} {dl : List Log} {j : Nat}, pairsB ops as done dl j l gl = true → done.length = j → dl.length = j →
    ∀ k o, j ≤ k → (done ++ l)[k]? = some o → edgesB k o.after.toList = true ∧ ∃ g, (dl ++ gl)[k]? = some g ∧ ∀ i p q, i < k → (done ++ l)[i]? = some p → (dl ++ gl)[i]? = some q → (as.getD k 0).testBit i = true ∨ PairOk ops p o q g
  | [], gl, done, dl, j, _, hd, _, k, o, hk, ho => by
    rw [List.append_nil, List.getElem?_eq_none (by omega)] at ho; cases ho
  | _ :: _, [], _, _, _, h, _, _, _, _, _, _ => by cases h
  | o0 :: l, g0 :: gl, done, dl, j, h, hd, hdl, k, o, hk, ho => by
    simp only [pairsB, Bool.and_eq_true] at h
    obtain ⟨⟨h1, h2⟩, h3⟩ := h
    by_cases hkj : k = j
    · subst hkj
      have e1 : (done ++ o0 :: l)[k]? = some o0 := by rw [List.getElem?_append_right (by omega), hd, Nat.sub_self]; rfl
      rw [e1] at ho; injection ho with ho; subst ho
      refine ⟨h1, g0, by rw [List.getElem?_append_right (by omega), hdl, Nat.sub_self]; rfl, fun i p q hi hp hq => ?_⟩
      rw [List.getElem?_append_left (by omega)] at hp hq
      have := pairB_ok h2 i p q hp hq
      rwa [Nat.zero_add] at this
    · have := pairsB_ok h3 (by simp [hd]) (by simp [hdl]) k o (by omega) (by simpa using ho)
      simpa using this
theorem regionB_ok {ops : List Oper} {es : List Ent} (hes : es.map (·.o) = ops) (h : regionB ops ((es.map (·.log)).reverse ++ []) = true) :
    (∀ j o, ops[j]? = some o → edgesB j o.after.toList = true) ∧ ∀ i j e f, i < j → es[i]? = some e → es[j]? = some f → ((anc [] ops).getD j 0).testBit i = true ∨ Apart ops e f := by
  unfold regionB at h
  rw [List.append_nil, List.reverse_reverse] at h
  have key := pairsB_ok h rfl rfl
  simp only [List.nil_append] at key
  refine ⟨fun j o ho => (key j o (Nat.zero_le _) ho).1, fun i j e f hij he hf => ?_⟩
  have ho : ∀ {i : Nat} {e : Ent}, es[i]? = some e → ops[i]? = some e.o := fun {i e} he => by rw [← hes, List.getElem?_map, he]; rfl
  obtain ⟨_, g, hg, hall⟩ := key j f.o (Nat.zero_le _) (ho hf)
  have hl : ∀ {i : Nat} {e : Ent}, es[i]? = some e → (es.map (·.log))[i]? = some e.log := fun {i e} he => by rw [List.getElem?_map, he]; rfl
  rw [hl hf] at hg; injection hg with hg; subst hg
  rcases hall i e.o e.log hij (ho he) (hl he) with h1 | ⟨h1, h2, h3, h4⟩
  · exact .inl h1
  · exact .inr ⟨h1, h3, h2, h4⟩

theorem chain_get {P : Program} {all : List Oper} : ∀ {es : List Ent} {tm : List Val} {H : Nat → Blk} {n j : Nat} {e : Ent}, Chain P all es tm H n → es[j]? = some e →
    EntOk P all e (endTm (es.take j) tm) (endH (es.take j) H) ∧ n ≤ e.n ∧ e.n' ≤ endN es n ∧ ∀ i f, i < j → es[i]? = some f → f.n' ≤ e.n
  | [], _, _, _, _, _, _, h => by simp at h
  | f :: es, tm, H, n, 0, e, hc, h => by
    simp only [List.getElem?_cons_zero, Option.some.injEq] at h; subst h
    obtain ⟨h1, h2, h3⟩ := hc
    refine ⟨h1, by omega, ?_, fun i _ hi => absurd hi (by omega)⟩
    simp only [endN]
    exact endN_le h3
  | f :: es, tm, H, n, j + 1, e, hc, h => by
    obtain ⟨h1, h2, h3⟩ := hc
    obtain ⟨k1, k2, k3, k4⟩ := chain_get h3 (by simpa using h)
    have := h1.2.2.1
    refine ⟨k1, by omega, k3, fun i g hi hg => ?_⟩
    cases i with
    | zero => simp only [List.getElem?_cons_zero, Option.some.injEq] at hg; subst hg; exact k2
    | succ i => exact k4 i g (by omega) (by simpa using hg)
where endN_le {P : Program} {all : List Oper} : ∀ {es : List Ent} {tm : List Val} {H : Nat → Blk} {n : Nat}, Chain P all es tm H n → n ≤ endN es n
  | [], _, _, _, _ => Nat.le_refl _
  | f :: es, tm, H, n, ⟨h1, h2, h3⟩ => by
    have := endN_le h3
    have := h1.2.2.1
    simp only [endN]; omega

theorem mem_looks {ops : Array Oper} {o : Oper} {t : Tmp} (h : Operand.tmp t ∈ o.op.operands) : t ∈ o.looksAt ops := by
  unfold Oper.looksAt
  rw [List.mem_append]
  exact .inl (List.mem_filterMap.2 ⟨_, by simpa using h, rfl⟩)
theorem guard_looks {ops : List Oper} {o : Oper} {g : Nat} {want : Bool} {d : Tmp} (h : o.guard = some (g, want)) (hd : (ops[g]?).bind (·.dst) = some d) : d ∈ o.looksAt ops.toArray := by
  unfold Oper.looksAt
  rw [List.mem_append]
  refine .inr ?_
  simp only [h, List.getElem?_toArray, hd]
  simp

section
variable {P : Program} {ops : List Oper} {es : List Ent} {tm : List Val} {hp hp' : List Blk} {w0 : World} {S : Nat → Prop} {φ0 : Prot} {ι0 : Map} {n : Nat} {Q : Exit → Act → World → Prop}
def StD (w0 : World) (S : Nat → Prop) (φ0 : Prot) (ι0 : Map) (n : Nat) (es : List Ent) (tm : List Val) (hp : List Blk) (D : Nat → Bool) (a : Act) (w : World) : Prop :=
  ∃ ι φ, Inv w0 S φ0 ι φ (dH D 0 es (getH hp)) w ∧ TmOk ι φ (dTm D 0 es tm) a.tmps ∧ (∀ b, hp.length ≤ b → (∀ i e, es[i]? = some e → D i = true → ¬ (e.n ≤ b ∧ b < e.n')) → ι b = none) ∧ (∀ b, b < n → ι b = ι0 b) ∧ a.defers = []

/-- One operation of a region whose order is drawn. -/
theorem draw_step (hes : es.map (·.o) = ops) (hc : Chain P ops es tm (getH hp) hp.length) (hn : n ≤ hp.length) (hE : ∀ j o, ops[j]? = some o → edgesB j o.after.toList = true)
    (hap : ∀ i j e f, i < j → es[i]? = some e → es[j]? = some f → ((anc [] ops).getD j 0).testBit i = true ∨ Apart ops e f) {D : Nat → Bool} (hD : DC ops D) {j : Nat} (hj : j < ops.length) (hDj : D j = false) (hD' : DC ops (setD D j))
    {a : Act} {w : World} (hs : StD w0 S φ0 ι0 n es tm hp D a w) {K : Act → World → Prop} (hK : ∀ a w, StD w0 S φ0 ι0 n es tm hp (setD D j) a w → K a w) : wpOp P ops.toArray Q j K a w := by
  have hlen : es.length = ops.length := by rw [← hes, List.length_map]
  obtain ⟨e, he⟩ : ∃ e, es[j]? = some e := ⟨es[j], List.getElem?_eq_getElem (by omega)⟩
  have hget : ∀ {i : Nat} {e : Ent}, es[i]? = some e → ops[i]? = some e.o := fun {i e} he => by rw [← hes, List.getElem?_map, he]; rfl
  obtain ⟨ι, φ, hI, ht, hfree, h0, hdf⟩ := hs
  obtain ⟨hok, hn0, hend, hbefore⟩ := chain_get hc he
  -- who is apart
  have later : ∀ i f, es[i]? = some f → j < i → D i = true → Apart ops e f := fun i f hf hji hDi => by
    rcases hap j i e f hji he hf with h | h
    · have := anc_dc hE hD i f.o (hget hf) hDi j h
      rw [hDj] at this; cases this
    · exact h
  have earlier : ∀ i f, es[i]? = some f → i < j → D i = false → Apart ops f e := fun i f hf hij hDi => by
    rcases hap i j f e hij hf he with h | h
    · have := anc_dc hE hD' j e.o (hget he) (by simp [setD]) i h
      simp only [setD, hDi, Bool.or_false, beq_iff_eq] at this; omega
    · exact h
  have hsplit : es = es.take j ++ e :: es.drop (j + 1) := by
    have h1 := (List.take_append_drop j es).symm
    have h2 : es.drop j = e :: es.drop (j + 1) := by
      rw [List.drop_eq_getElem_cons (by omega : j < es.length)]
      congr 1
      rw [List.getElem?_eq_getElem (by omega)] at he
      injection he
    rw [h2] at h1; exact h1
  have htl : (es.take j).length = j := by rw [List.length_take]; omega
  have hdrop : ∀ i f, (es.drop (j + 1))[i]? = some f → es[j + 1 + i]? = some f := fun i f hf => by rwa [List.getElem?_drop] at hf
  have htake : ∀ i f, (es.take j)[i]? = some f → i < j ∧ es[i]? = some f := fun i f hf => by
    rw [List.getElem?_take] at hf
    split at hf
    · rename_i h; exact ⟨h, hf⟩
    · cases hf
  have agreeT : ∀ t, t ∈ e.o.looksAt ops.toArray → (dTm D 0 es tm).getD t (.tup []) = (endTm (es.take j) tm).getD t (.tup []) := fun t htl2 => by
    rw [hsplit, dTm_append, htl, Nat.zero_add]
    simp only [dTm, hDj]
    rw [dTm_get fun i f hf hDi => by
      have := later (j + 1 + i) f (hdrop i f hf) (by omega) hDi
      exact fun hd => (Oper.apart_spec this.ops).2.2 t hd htl2]
    have hsimp : (es.take j ++ e :: es.drop (j + 1)).take j = es.take j := by rw [← hsplit]
    rw [hsimp]
    exact dTm_before rfl rfl fun i f hf hDi => by
      obtain ⟨hij, hf⟩ := htake i f hf
      have := earlier i f hf hij (by simpa using hDi)
      exact fun hd => (Oper.apart_spec this.ops).1 t hd htl2
  have agreeH : ∀ b, b ∈ e.r → dH D 0 es (getH hp) b = endH (es.take j) (getH hp) b := fun b hb => by
    rw [hsplit, dH_append, htl, Nat.zero_add]
    simp only [dH, hDj]
    rw [dH_get fun i f hf hDi => by
      have := later (j + 1 + i) f (hdrop i f hf) (by omega) hDi
      exact this.rw_ b hb]
    have hsimp : (es.take j ++ e :: es.drop (j + 1)).take j = es.take j := by rw [← hsplit]
    rw [hsimp]
    exact dH_before rfl fun i f hf hDi => by
      obtain ⟨hij, hf⟩ := htake i f hf
      have := earlier i f hf hij (by simpa using hDi)
      exact fun h => this.wr b h hb
  have hafter : ∀ i f, es[i]? = some f → j < 0 + i → D (0 + i) = true → Apart ops e f := fun i f hf hji hDi => by
    rw [Nat.zero_add] at hji hDi; exact later i f hf hji hDi
  have eT : dTm (setD D j) 0 es tm = e.tm (dTm D 0 es tm) := dTm_set (all := ops) hDj (Nat.zero_le _) (by simpa using he) hafter tm
  have eH : dH (setD D j) 0 es (getH hp) = e.H (dH D 0 es (getH hp)) := dH_set (all := ops) hDj (Nat.zero_le _) (by simpa using he) hafter (getH hp)
  have hw : Region.wanted e.o (yielded ops.toArray a.tmps) = e.on := hok.2.2.2 ι φ a _ ht fun g want d hg hd => agreeT d (guard_looks hg hd)
  have hone : ops.toArray[j]? = some e.o := by rw [List.getElem?_toArray]; exact hget he
  have hnn : e.n ≤ e.n' := hok.2.2.1
  unfold wpOp
  rw [hone]
  simp only
  rw [hw]
  cases hon : e.on with
  | true =>
    rw [if_pos rfl]
    refine .inl (hok.1 hon a w w0 S φ0 ι φ (dH D 0 es (getH hp)) (dTm D 0 es tm) _ _ hI ht (fun x hx => ?_) agreeH (fun b hb1 hb2 => ?_) fun cv w' ι' φ' hv hI' hm hp2 hfr => hK _ _ ?_)
    · cases x with
      | tmp t => simpa [evV, evK, getK_eq] using agreeT t (mem_looks hx)
      | const v => simp [evV, evK]
      | global g => simp [evV, evK]
      | func f => simp [evV, evK]
    · refine hfree b (by omega) fun i f hf hDi ⟨k1, k2⟩ => ?_
      rcases Nat.lt_trichotomy i j with h | h | h
      · have := hbefore i f h hf; omega
      · subst h; rw [hDj] at hDi; cases hDi
      · have := (chain_get hc hf).2.2.2 j e h he; omega
    · refine ⟨ι', φ', by rw [eH]; exact hI', by rw [eT]; exact (ht.mono hm hp2).put _ hv, fun b hb hall => ?_, fun b hb => ?_, by rw [put_defers, hdf]⟩
      · have hnj := hall j e he (by simp [setD])
        rw [hfr b (by omega)]
        exact hfree b hb fun i f hf hDi => hall i f hf (by simp [setD, hDi])
      · rw [hfr b (.inl (by omega))]; exact h0 b hb
  | false =>
    rw [if_neg (by simp)]
    obtain ⟨hv, hu⟩ := hok.2.1 hon
    refine hK _ _ ⟨ι, φ, ?_, ?_, fun b hb hall => hfree b hb fun i f hf hDi => hall i f hf (by simp [setD, hDi]), h0, by rw [put_defers, hdf]⟩
    · rw [eH]; simp only [Ent.H, hu]; exact hI
    · rw [eT]; simp only [Ent.tm, hv]; exact ht.put _ (rel_undef ι φ)

def listD (l : Array Bool) : Nat → Bool := fun i => l.getD i false
theorem draw_any (hes : es.map (·.o) = ops) (hc : Chain P ops es tm (getH hp) hp.length) (hn : n ≤ hp.length) (hE : ∀ j o, ops[j]? = some o → edgesB j o.after.toList = true)
    (hap : ∀ i j e f, i < j → es[i]? = some e → es[j]? = some f → ((anc [] ops).getD j 0).testBit i = true ∨ Apart ops e f)
    (hQ : ∀ a w, StD w0 S φ0 ι0 n es tm hp (fun i => decide (i < ops.length)) a w → Q .normal a w) :
    ∀ (fuel : Nat) (l : Array Bool) (a : Act) (w : World), l.size = ops.length → l.toList.count false ≤ fuel → DC ops (listD l) → StD w0 S φ0 ι0 n es tm hp (listD l) a w → wpAny P .any ops.toArray Q fuel l a w := by
  have hall : ∀ (l : Array Bool), l.size = ops.length → Region.ready .any ops.toArray l = [] → listD l = fun i => decide (i < ops.length) := fun l hl hr => by
    have h1 : ∀ i, i < ops.length → listD l i = true := by
      intro i
      induction i using Nat.strongRecOn with
      | _ i ih =>
        intro hi
        cases hli : listD l i with
        | true => rfl
        | false =>
          have : i ∈ Region.ready .any ops.toArray l := by
            unfold Region.ready
            refine List.mem_filter.2 ⟨List.mem_range.2 (by simpa using hi), ?_⟩
            have e1 : l.getD i true = false := by
              unfold listD at hli
              rw [Array.getD_eq_getD_getElem?, Array.getElem?_eq_getElem (by omega)] at hli ⊢
              exact hli
            have e2 : ops.toArray[i]? = some ops[i] := by rw [List.getElem?_toArray, List.getElem?_eq_getElem hi]
            rw [e1, e2]
            simp only [Bool.not_false, Bool.true_and, Option.map_some, Option.getD_some]
            rw [← Array.all_toList, List.all_eq_true]
            intro e he
            cases hb : Region.binds .any e with
            | false => rfl
            | true =>
              have hlt := edgesB_ok (hE i ops[i] (List.getElem?_eq_getElem hi)) e he hb
              have := ih e.on hlt (by omega)
              simp only [Bool.not_true, Bool.false_or]
              exact this
          rw [hr] at this; cases this
    funext i
    rcases Nat.lt_or_ge i ops.length with h | h
    · rw [h1 i h]; simp [h]
    · unfold listD
      rw [Array.getD_eq_getD_getElem?, Array.getElem?_eq_none (by omega)]
      simp; omega
  intro fuel
  induction fuel with
  | zero =>
    intro l a w hl hcnt hD hs
    have hnil : Region.ready .any ops.toArray l = [] := by
      cases hr : Region.ready .any ops.toArray l with
      | nil => rfl
      | cons x xs =>
        have hx : x ∈ Region.ready .any ops.toArray l := by rw [hr]; simp
        unfold Region.ready at hx
        obtain ⟨h1, h2⟩ := List.mem_filter.1 hx
        have hlt : x < l.size := by have := List.mem_range.1 h1; rw [hl]; simpa using this
        have h3 : l.getD x true = false := by
          rw [Bool.and_eq_true] at h2
          simpa using h2.1
        rw [Array.getD_eq_getD_getElem?, Array.getElem?_eq_getElem hlt] at h3
        have : false ∈ l.toList := by
          simp only [Option.getD_some] at h3
          rw [← h3]; simp
        have := List.count_pos_iff.2 this
        omega
    refine ⟨hnil, hQ a w ?_⟩
    rw [← hall l hl hnil]; exact hs
  | succ fuel ih =>
    intro l a w hl hcnt hD hs
    refine ⟨fun hnil => hQ a w (by rw [← hall l hl hnil]; exact hs), fun j hj => ?_⟩
    unfold Region.ready at hj
    obtain ⟨h1, h2⟩ := List.mem_filter.1 hj
    have hjl : j < ops.length := by simpa using List.mem_range.1 h1
    rw [Bool.and_eq_true] at h2
    have h3 : l[j]? = some false := by
      have h3 := h2.1
      rw [Array.getD_eq_getD_getElem?, Array.getElem?_eq_getElem (by omega)] at h3
      rw [Array.getElem?_eq_getElem (by omega)]
      simpa using h3
    have hDj : listD l j = false := by unfold listD; rw [Array.getD_eq_getD_getElem?, h3]; rfl
    have hset : listD (l.setIfInBounds j true) = setD (listD l) j := by
      funext i
      unfold listD setD
      rw [Array.getD_eq_getD_getElem?, Array.getElem?_setIfInBounds]
      by_cases hij : j = i
      · subst hij; simp [hl, hjl]
      · rw [if_neg hij]
        have : (i == j) = false := by rw [beq_eq_false_iff_ne]; exact fun e => hij e.symm
        rw [this, Bool.false_or]
        exact (Array.getD_eq_getD_getElem? (xs := l) (i := i) (d := false)).symm
    have hD' : DC ops (setD (listD l) j) := by
      intro k o ho hk e he hb
      by_cases hkj : k = j
      · subst hkj
        have e2 : ops.toArray[k]? = some o := by rw [List.getElem?_toArray]; exact ho
        have h4 := h2.2
        rw [e2] at h4
        simp only [Option.map_some, Option.getD_some] at h4
        rw [← Array.all_toList, List.all_eq_true] at h4
        have := h4 e he
        rw [hb] at this
        simp only [Bool.not_true, Bool.false_or] at this
        simp [setD, listD, this]
      · have : listD l k = true := by simpa [setD, hkj] using hk
        simp [setD, hD k o ho this e he hb]
    refine draw_step hes hc hn hE hap hD hjl hDj hD' hs fun a w hs' => ih _ a w (by simpa using hl) ?_ (by rw [hset]; exact hD') (by rw [hset]; exact hs')
    have hmem : l.toList[j]? = some false := by rw [Array.getElem?_toList]; exact h3
    have hlt : j < l.toList.length := (List.getElem?_eq_some_iff.1 hmem).1
    rw [Array.toList_setIfInBounds, List.count_set hlt]
    have h5 : l.toList[j] = false := by rw [List.getElem?_eq_getElem hlt] at hmem; injection hmem
    have hpos : 0 < l.toList.count false := List.count_pos_iff.2 (by rw [← h5]; exact List.getElem_mem _)
    simp [h5]
    simp at hcnt hpos
    omega
end
end
end Go.AM
