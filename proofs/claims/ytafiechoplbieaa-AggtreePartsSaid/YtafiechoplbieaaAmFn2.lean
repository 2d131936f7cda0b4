/- The machine over heaps that are functions: regions, in their order or in any; contracts. -/
import Derived.Test.YtafiechoplbieaaAmFn1
set_option linter.unusedVariables false
set_option linter.unusedSimpArgs false
set_option maxRecDepth 100000
namespace Go.AM
noncomputable section
open Go.RowKit

/-! ### regions whose order is drawn: what must be apart -/
/-- Two names are apart. -/
structure Neq (x y : Nat) (G : Prop) : Prop where
  ne : x ≠ y
  rest : G
def noIn (x : Nat) : List Nat → Prop → Prop
  | [], G => G
  | y :: l, G => Neq x y (noIn x l G)
def noMeet : List Nat → List Nat → Prop → Prop
  | [], _, G => G
  | x :: l, m, G => noIn x m (noMeet l m G)
def wrote : Log → Log → Bool
  | (_, []), (_, []) => false
  | _, _ => true
/-- a pair of operations, ordered or not; what follows is named once -/
def pairK (b : Bool) (a i : Nat) (q g : Log) (X : Prop) : Prop := match b with
  | false => X
  | true => match a.testBit i with
    | true => X
    | false => noMeet q.2 g.1 (noMeet q.2 g.2 (noMeet q.1 g.2 X))
def dynP (g : Log) (a : Nat) : Nat → List Log → Prop → Prop
  | 0, _, G => G
  | _ + 1, [], G => G
  | i + 1, q :: qs, G => pairK (wrote q g) a i q g (dynP g a i qs G)
def dynK : List Nat → List Log → Nat → List Log → Prop → Prop
  | _, _, _, [], G => G
  | [], _, _, _ :: _, _ => False
  | a :: az, done, j, g :: gs, G => dynP g a j done (dynK az (g :: done) (j + 1) gs G)
def statP (ops : List Oper) (o : Oper) (a : Nat) : Nat → List Oper → Bool
  | _, [] => true
  | i, p :: ps => (a.testBit i || p.apart ops.toArray o) && statP ops o a (i + 1) ps
def statsB (ops : List Oper) (az : List Nat) : List Oper → Nat → List Oper → Bool
  | _, _, [] => true
  | done, j, o :: rest => edgesB j o.after.toList && statP ops o (az.getD j 0) 0 done && statsB ops az (done ++ [o]) (j + 1) rest
/-- a number, worked out -/
def forceK (n : Nat) (K : Nat → Prop) : Prop := match n with
  | 0 => K 0
  | m + 1 => K (m + 1)
theorem forceK_eq (n : Nat) (K : Nat → Prop) : forceK n K = K n := by cases n <;> rfl
def snocK : List Nat → Nat → (List Nat → Prop) → Prop
  | [], n, K => K [n]
  | x :: l, n, K => snocK l n fun l' => K (x :: l')
theorem snocK_eq : ∀ (l : List Nat) (n : Nat) (K : List Nat → Prop), snocK l n K = K (l ++ [n])
  | [], _, _ => rfl
  | x :: l, n, K => by rw [snocK, snocK_eq l n]; rfl
/-- The operations' ancestors, each worked out once. -/
def ancK : List Nat → List Oper → (List Nat → Prop) → Prop
  | az, [], K => K az
  | az, o :: rest, K => forceK (orAll az o.after.toList) fun n => snocK az n fun az' => ancK az' rest K
theorem ancK_eq : ∀ (l : List Oper) (az : List Nat) (K : List Nat → Prop), ancK az l K = K (anc az l)
  | [], _, _ => rfl
  | o :: rest, az, K => by rw [ancK, forceK_eq, snocK_eq, ancK_eq rest, anc]
theorem noIn_ok {x : Nat} : ∀ {l : List Nat} {G : Prop}, noIn x l G → x ∉ l ∧ G
  | [], _, h => ⟨by simp, h⟩
  | y :: l, _, h => by
    obtain ⟨h1, h2⟩ := noIn_ok h.rest
    exact ⟨by simp only [List.mem_cons, not_or]; exact ⟨h.ne, h1⟩, h2⟩
theorem noMeet_ok : ∀ {l m : List Nat} {G : Prop}, noMeet l m G → (∀ b ∈ l, b ∉ m) ∧ G
  | [], _, _, h => ⟨fun b hb => by simp at hb, h⟩
  | x :: l, m, _, h => by
    obtain ⟨h1, h2⟩ := noIn_ok h
    obtain ⟨h3, h4⟩ := noMeet_ok h2
    refine ⟨fun b hb => ?_, h4⟩
    rcases List.mem_cons.1 hb with e | hb
    · rw [e]; exact h1
    · exact h3 b hb
def Disj (q g : Log) : Prop := (∀ b ∈ q.2, b ∉ g.1) ∧ (∀ b ∈ q.2, b ∉ g.2) ∧ ∀ b ∈ q.1, b ∉ g.2
theorem dynP_ok {g : Log} {a : Nat} : ∀ {qs : List Log} {i : Nat} {G : Prop}, dynP g a i qs G → qs.length = i → G ∧ ∀ k q, qs.reverse[k]? = some q → a.testBit k = true ∨ Disj q g
  | [], 0, G, h, _ => ⟨h, fun k q hk => by simp at hk⟩
  | [], _ + 1, _, _, hl => by simp at hl
  | _ :: _, 0, _, _, hl => by simp at hl
  | q0 :: qs, i + 1, G, h, hl => by
    unfold dynP pairK at h
    have hl' : qs.length = i := by simpa using hl
    have key : ∀ h' : dynP g a i qs G, (a.testBit i = true ∨ Disj q0 g) → G ∧ ∀ k q, (q0 :: qs).reverse[k]? = some q → a.testBit k = true ∨ Disj q g := fun h' h0 => by
      obtain ⟨h1, h2⟩ := dynP_ok h' hl'
      refine ⟨h1, fun k q hk => ?_⟩
      rw [List.reverse_cons] at hk
      rcases Nat.lt_or_ge k i with hlt | hge
      · rw [List.getElem?_append_left (by rw [List.length_reverse]; omega)] at hk
        exact h2 k q hk
      · rw [List.getElem?_append_right (by rw [List.length_reverse]; omega), List.length_reverse, hl'] at hk
        cases hd : k - i with
        | zero =>
          rw [hd] at hk
          simp only [List.getElem?_cons_zero, Option.some.injEq] at hk
          subst hk
          have : k = i := by omega
          subst this
          exact h0
        | succ n => rw [hd] at hk; simp at hk
    split at h
    · rename_i hw
      refine key h (.inr ?_)
      obtain ⟨r1, w1⟩ := q0
      obtain ⟨r2, w2⟩ := g
      cases w1 <;> cases w2 <;> simp [wrote] at hw
      simp [Disj]
    · split at h
      · rename_i hb; exact key h (.inl hb)
      · obtain ⟨h1, h⟩ := noMeet_ok h
        obtain ⟨h2, h⟩ := noMeet_ok h
        obtain ⟨h3, h⟩ := noMeet_ok h
        exact key h (.inr ⟨h1, h2, h3⟩)
theorem dynK_ok : ∀ {gl : List Log} {az : List Nat} {dl : List Log} {j : Nat} {G : Prop}, dynK az dl j gl G → dl.length = j → G ∧ ∀ k g, j ≤ k → (dl.reverse ++ gl)[k]? = some g → ∀ i q, i < k → (dl.reverse ++ gl)[i]? = some q → (az.getD (k - j) 0).testBit i = true ∨ Disj q g
  | [], az, dl, j, G, h, hd => ⟨by cases az <;> exact h, fun k g hk hg => by rw [List.append_nil, List.getElem?_eq_none (by rw [List.length_reverse]; omega)] at hg; cases hg⟩
  | g0 :: gl, [], dl, j, G, h, hd => h.elim
  | g0 :: gl, a :: az, dl, j, G, h, hd => by
    unfold dynK at h
    obtain ⟨h1, h2⟩ := dynP_ok h hd
    obtain ⟨h3, h4⟩ := dynK_ok h1 (by simp [hd])
    refine ⟨h3, fun k g hk hg i q hi hq => ?_⟩
    by_cases hkj : k = j
    · subst hkj
      have e1 : (dl.reverse ++ g0 :: gl)[k]? = some g0 := by rw [List.getElem?_append_right (by rw [List.length_reverse]; omega), List.length_reverse, hd, Nat.sub_self]; rfl
      rw [e1] at hg; injection hg with hg; subst hg
      rw [List.getElem?_append_left (by rw [List.length_reverse]; omega)] at hq
      rw [Nat.sub_self]
      exact h2 i q hq
    · have := h4 k g (by omega) (by simpa using hg) i q hi (by simpa using hq)
      rwa [show k - j = (k - (j + 1)) + 1 by omega, List.getD_cons_succ]
theorem statP_ok {ops : List Oper} {o : Oper} {a : Nat} : ∀ {ps : List Oper} {i : Nat}, statP ops o a i ps = true → ∀ k p, ps[k]? = some p → a.testBit (i + k) = true ∨ p.apart ops.toArray o = true
  | [], _, _, k, p, hp => by simp at hp
  | p0 :: ps, i, h, k, p, hp => by
    simp only [statP, Bool.and_eq_true, Bool.or_eq_true] at h
    cases k with
    | zero => simp only [List.getElem?_cons_zero, Option.some.injEq] at hp; subst hp; exact h.1
    | succ k =>
      have := statP_ok h.2 k p (by simpa using hp)
      rwa [show i + (k + 1) = i + 1 + k by omega]
theorem statsB_ok {ops : List Oper} {az : List Nat} : ∀ {l done : List Oper} {j : Nat}, statsB ops az done j l = true → done.length = j → ∀ k o, j ≤ k → (done ++ l)[k]? = some o → edgesB k o.after.toList = true ∧ ∀ i p, i < k → (done ++ l)[i]? = some p → (az.getD k 0).testBit i = true ∨ p.apart ops.toArray o = true
  | [], done, j, _, hd, k, o, hk, ho => by rw [List.append_nil, List.getElem?_eq_none (by omega)] at ho; cases ho
  | o0 :: l, done, j, h, hd, k, o, hk, ho => by
    simp only [statsB, Bool.and_eq_true] at h
    obtain ⟨⟨h1, h2⟩, h3⟩ := h
    by_cases hkj : k = j
    · subst hkj
      have e1 : (done ++ o0 :: l)[k]? = some o0 := by rw [List.getElem?_append_right (by omega), hd, Nat.sub_self]; rfl
      rw [e1] at ho; injection ho with ho; subst ho
      refine ⟨h1, fun i p hi hp => ?_⟩
      rw [List.getElem?_append_left (by omega)] at hp
      have := statP_ok h2 i p hp
      rwa [Nat.zero_add] at this
    · have := statsB_ok h3 (by simp [hd]) k o (by omega) (by simpa using ho)
      simpa using this

def EntOkF (P : Program) (all : List Oper) (e : Ent) (tm : List Val) (H : Nat → Blk) : Prop :=
  (e.on = true → FactF P e.o tm H e.n e.n' e.v e.u e.r) ∧ (e.on = false → e.v = .tup [] ∧ e.u = []) ∧ e.n ≤ e.n' ∧
  ∀ (ι : Map) (φ : Prot) (a : Act) (tm' : List Val), TmOk ι φ tm' a.tmps → (∀ g want d, e.o.guard = some (g, want) → ((all[g]?).bind (·.dst)) = some d → tm'.getD d (.tup []) = tm.getD d (.tup [])) →
      Region.wanted e.o (yielded all.toArray a.tmps) = e.on
def ChainF (P : Program) (all : List Oper) : List Ent → List Val → (Nat → Blk) → Nat → Prop
  | [], _, _, _ => True
  | e :: l, tm, H, n => EntOkF P all e tm H ∧ e.n = n ∧ ChainF P all l (e.tm tm) (e.H H) e.n'
theorem chainF_get {P : Program} {all : List Oper} : ∀ {es : List Ent} {tm : List Val} {H : Nat → Blk} {n j : Nat} {e : Ent}, ChainF P all es tm H n → es[j]? = some e →
    EntOkF P all e (endTm (es.take j) tm) (endH (es.take j) H) ∧ n ≤ e.n ∧ e.n' ≤ endN es n ∧ ∀ i f, i < j → es[i]? = some f → f.n' ≤ e.n
  | [], _, _, _, _, _, _, h => by simp at h
  | f :: es, tm, H, n, 0, e, hc, h => by
    simp only [List.getElem?_cons_zero, Option.some.injEq] at h; subst h
    obtain ⟨h1, h2, h3⟩ := hc
    refine ⟨h1, by omega, ?_, fun i _ hi => absurd hi (by omega)⟩
    simp only [endN]
    exact endN_le h3
  | f :: es, tm, H, n, j + 1, e, hc, h => by
    obtain ⟨h1, h2, h3⟩ := hc
    obtain ⟨k1, k2, k3, k4⟩ := chainF_get h3 (by simpa using h)
    have := h1.2.2.1
    refine ⟨k1, by omega, k3, fun i g hi hg => ?_⟩
    cases i with
    | zero => simp only [List.getElem?_cons_zero, Option.some.injEq] at hg; subst hg; exact k2
    | succ i => exact k4 i g (by omega) (by simpa using hg)
where endN_le {P : Program} {all : List Oper} : ∀ {es : List Ent} {tm : List Val} {H : Nat → Blk} {n : Nat}, ChainF P all es tm H n → n ≤ endN es n
  | [], _, _, _, _ => Nat.le_refl _
  | f :: es, tm, H, n, ⟨h1, h2, h3⟩ => by
    have := endN_le h3
    have := h1.2.2.1
    simp only [endN]; omega

section
variable {P : Program} {ops : List Oper} {es : List Ent} {tm : List Val} {H0 : Nat → Blk} {N0 : Nat} {w0 : World} {S : Nat → Prop} {φ0 : Prot} {ι0 : Map} {Q : Exit → Act → World → Prop}
def StDF (w0 : World) (S : Nat → Prop) (φ0 : Prot) (ι0 : Map) (es : List Ent) (tm : List Val) (H0 : Nat → Blk) (N0 : Nat) (D : Nat → Bool) (a : Act) (w : World) : Prop :=
  ∃ ι φ, Inv w0 S φ0 ι φ (dH D 0 es H0) w ∧ TmOk ι φ (dTm D 0 es tm) a.tmps ∧ (∀ b, N0 ≤ b → (∀ i e, es[i]? = some e → D i = true → ¬ (e.n ≤ b ∧ b < e.n')) → ι b = none) ∧ MapLe ι0 ι ∧ a.defers = []

/-- One operation of a region whose order is drawn. -/
theorem drawF_step (hes : es.map (·.o) = ops) (hc : ChainF P ops es tm H0 N0) (hE : ∀ j o, ops[j]? = some o → edgesB j o.after.toList = true)
    (hap : ∀ i j e f, i < j → es[i]? = some e → es[j]? = some f → ((anc [] ops).getD j 0).testBit i = true ∨ Apart ops e f) {D : Nat → Bool} (hD : DC ops D) {j : Nat} (hj : j < ops.length) (hDj : D j = false) (hD' : DC ops (setD D j))
    {a : Act} {w : World} (hs : StDF w0 S φ0 ι0 es tm H0 N0 D a w) {K : Act → World → Prop} (hK : ∀ a w, StDF w0 S φ0 ι0 es tm H0 N0 (setD D j) a w → K a w) : wpOp P ops.toArray Q j K a w := by
  have hlen : es.length = ops.length := by rw [← hes, List.length_map]
  obtain ⟨e, he⟩ : ∃ e, es[j]? = some e := ⟨es[j], List.getElem?_eq_getElem (by omega)⟩
  have hget : ∀ {i : Nat} {e : Ent}, es[i]? = some e → ops[i]? = some e.o := fun {i e} he => by rw [← hes, List.getElem?_map, he]; rfl
  obtain ⟨ι, φ, hI, ht, hfree, h0, hdf⟩ := hs
  obtain ⟨hok, hn0, hend, hbefore⟩ := chainF_get hc he
  have hle0 : N0 ≤ endN es N0 := by have := hok.2.2.1; omega
  -- who is apart
  have later : ∀ i f, es[i]? = some f → j < i → D i = true → Apart ops e f := fun i f hf hji hDi => by
    rcases hap j i e f hji he hf with h | h
    · have := anc_dc hE hD i f.o (hget hf) hDi j h
      rw [hDj] at this; cases this
    · exact h
  have earlier : ∀ i f, es[i]? = some f → i < j → D i = false → Apart ops f e := fun i f hf hij hDi => by
    rcases hap i j f e hij hf he with h | h
    · have := anc_dc hE hD' j e.o (hget he) (by simp [setD]) i h
      simp only [setD, hDi, Bool.or_false, beq_iff_eq] at this; omega
    · exact h
  have hsplit : es = es.take j ++ e :: es.drop (j + 1) := by
    have h1 := (List.take_append_drop j es).symm
    have h2 : es.drop j = e :: es.drop (j + 1) := by
      rw [List.drop_eq_getElem_cons (by omega : j < es.length)]
      congr 1
      rw [List.getElem?_eq_getElem (by omega)] at he
      injection he
    rw [h2] at h1; exact h1
  have htl : (es.take j).length = j := by rw [List.length_take]; omega
  have hdrop : ∀ i f, (es.drop (j + 1))[i]? = some f → es[j + 1 + i]? = some f := fun i f hf => by rwa [List.getElem?_drop] at hf
  have htake : ∀ i f, (es.take j)[i]? = some f → i < j ∧ es[i]? = some f := fun i f hf => by
    rw [List.getElem?_take] at hf
    split at hf
    · rename_i h; exact ⟨h, hf⟩
    · cases hf
  have agreeT : ∀ t, t ∈ e.o.looksAt ops.toArray → (dTm D 0 es tm).getD t (.tup []) = (endTm (es.take j) tm).getD t (.tup []) := fun t htl2 => by
    rw [hsplit, dTm_append, htl, Nat.zero_add]
    simp only [dTm, hDj]
    rw [dTm_get fun i f hf hDi => by
      have := later (j + 1 + i) f (hdrop i f hf) (by omega) hDi
      exact fun hd => (Oper.apart_spec this.ops).2.2 t hd htl2]
    have hsimp : (es.take j ++ e :: es.drop (j + 1)).take j = es.take j := by rw [← hsplit]
    rw [hsimp]
    exact dTm_before rfl rfl fun i f hf hDi => by
      obtain ⟨hij, hf⟩ := htake i f hf
      have := earlier i f hf hij (by simpa using hDi)
      exact fun hd => (Oper.apart_spec this.ops).1 t hd htl2
  have agreeH : ∀ b, b ∈ e.r → dH D 0 es H0 b = endH (es.take j) H0 b := fun b hb => by
    rw [hsplit, dH_append, htl, Nat.zero_add]
    simp only [dH, hDj]
    rw [dH_get fun i f hf hDi => by
      have := later (j + 1 + i) f (hdrop i f hf) (by omega) hDi
      exact this.rw_ b hb]
    have hsimp : (es.take j ++ e :: es.drop (j + 1)).take j = es.take j := by rw [← hsplit]
    rw [hsimp]
    exact dH_before rfl fun i f hf hDi => by
      obtain ⟨hij, hf⟩ := htake i f hf
      have := earlier i f hf hij (by simpa using hDi)
      exact fun h => this.wr b h hb
  have hafter : ∀ i f, es[i]? = some f → j < 0 + i → D (0 + i) = true → Apart ops e f := fun i f hf hji hDi => by
    rw [Nat.zero_add] at hji hDi; exact later i f hf hji hDi
  have eT : dTm (setD D j) 0 es tm = e.tm (dTm D 0 es tm) := dTm_set (all := ops) hDj (Nat.zero_le _) (by simpa using he) hafter tm
  have eH : dH (setD D j) 0 es H0 = e.H (dH D 0 es H0) := dH_set (all := ops) hDj (Nat.zero_le _) (by simpa using he) hafter H0
  have hw : Region.wanted e.o (yielded ops.toArray a.tmps) = e.on := hok.2.2.2 ι φ a _ ht fun g want d hg hd => agreeT d (guard_looks hg hd)
  have hone : ops.toArray[j]? = some e.o := by rw [List.getElem?_toArray]; exact hget he
  have hnn : e.n ≤ e.n' := hok.2.2.1
  unfold wpOp
  rw [hone]
  simp only
  rw [hw]
  cases hon : e.on with
  | true =>
    rw [if_pos rfl]
    refine .inl (hok.1 hon a w w0 S φ0 ι φ (dH D 0 es H0) (dTm D 0 es tm) _ _ hI ht (fun x hx => ?_) agreeH (fun b hb1 hb2 => ?_) ⟨endN es N0, fun b hb => hfree b (Nat.le_trans hle0 hb) fun i f hf _ ⟨_, k⟩ => by have := (chainF_get hc hf).2.2.1; omega⟩ fun cv w' ι' φ' hv hI' hm hp2 hfr => hK _ _ ?_)
    · cases x with
      | tmp t => simpa [evV, evK, getK_eq] using agreeT t (mem_looks hx)
      | const v => simp [evV, evK]
      | global g => simp [evV, evK]
      | func f => simp [evV, evK]
    · refine hfree b (by omega) fun i f hf hDi ⟨k1, k2⟩ => ?_
      rcases Nat.lt_trichotomy i j with h | h | h
      · have := hbefore i f h hf; omega
      · subst h; rw [hDj] at hDi; cases hDi
      · have := (chainF_get hc hf).2.2.2 j e h he; omega
    · refine ⟨ι', φ', by rw [eH]; exact hI', by rw [eT]; exact (ht.mono hm hp2).put _ hv, fun b hb hall => ?_, h0.trans hm, by rw [put_defers, hdf]⟩
      · have hnj := hall j e he (by simp [setD])
        rw [hfr b (by omega)]
        exact hfree b hb fun i f hf hDi => hall i f hf (by simp [setD, hDi])
  | false =>
    rw [if_neg (by simp)]
    obtain ⟨hv, hu⟩ := hok.2.1 hon
    refine hK _ _ ⟨ι, φ, ?_, ?_, fun b hb hall => hfree b hb fun i f hf hDi => hall i f hf (by simp [setD, hDi]), h0, by rw [put_defers, hdf]⟩
    · rw [eH]; simp only [Ent.H, hu]; exact hI
    · rw [eT]; simp only [Ent.tm, hv]; exact ht.put _ (rel_undef ι φ)

theorem drawF_any (hes : es.map (·.o) = ops) (hc : ChainF P ops es tm H0 N0) (hE : ∀ j o, ops[j]? = some o → edgesB j o.after.toList = true)
    (hap : ∀ i j e f, i < j → es[i]? = some e → es[j]? = some f → ((anc [] ops).getD j 0).testBit i = true ∨ Apart ops e f)
    (hQ : ∀ a w, StDF w0 S φ0 ι0 es tm H0 N0 (fun i => decide (i < ops.length)) a w → Q .normal a w) :
    ∀ (fuel : Nat) (l : Array Bool) (a : Act) (w : World), l.size = ops.length → l.toList.count false ≤ fuel → DC ops (listD l) → StDF w0 S φ0 ι0 es tm H0 N0 (listD l) a w → wpAny P .any ops.toArray Q fuel l a w := by
  have hall : ∀ (l : Array Bool), l.size = ops.length → Region.ready .any ops.toArray l = [] → listD l = fun i => decide (i < ops.length) := fun l hl hr => by
    have h1 : ∀ i, i < ops.length → listD l i = true := by
      intro i
      induction i using Nat.strongRecOn with
      | _ i ih =>
        intro hi
        cases hli : listD l i with
        | true => rfl
        | false =>
          have : i ∈ Region.ready .any ops.toArray l := by
            unfold Region.ready
            refine List.mem_filter.2 ⟨List.mem_range.2 (by simpa using hi), ?_⟩
            have e1 : l.getD i true = false := by
              unfold listD at hli
              rw [Array.getD_eq_getD_getElem?, Array.getElem?_eq_getElem (by omega)] at hli ⊢
              exact hli
            have e2 : ops.toArray[i]? = some ops[i] := by rw [List.getElem?_toArray, List.getElem?_eq_getElem hi]
            rw [e1, e2]
            simp only [Bool.not_false, Bool.true_and, Option.map_some, Option.getD_some]
            rw [← Array.all_toList, List.all_eq_true]
            intro e he
            cases hb : Region.binds .any e with
            | false => rfl
            | true =>
              have hlt := edgesB_ok (hE i ops[i] (List.getElem?_eq_getElem hi)) e he hb
              have := ih e.on hlt (by omega)
              simp only [Bool.not_true, Bool.false_or]
              exact this
          rw [hr] at this; cases this
    funext i
    rcases Nat.lt_or_ge i ops.length with h | h
    · rw [h1 i h]; simp [h]
    · unfold listD
      rw [Array.getD_eq_getD_getElem?, Array.getElem?_eq_none (by omega)]
      simp; omega
  intro fuel
  induction fuel with
  | zero =>
    intro l a w hl hcnt hD hs
    have hnil : Region.ready .any ops.toArray l = [] := by
      cases hr : Region.ready .any ops.toArray l with
      | nil => rfl
      | cons x xs =>
        have hx : x ∈ Region.ready .any ops.toArray l := by rw [hr]; simp
        unfold Region.ready at hx
        obtain ⟨h1, h2⟩ := List.mem_filter.1 hx
        have hlt : x < l.size := by have := List.mem_range.1 h1; rw [hl]; simpa using this
        have h3 : l.getD x true = false := by
          rw [Bool.and_eq_true] at h2
          simpa using h2.1
        rw [Array.getD_eq_getD_getElem?, Array.getElem?_eq_getElem hlt] at h3
        have : false ∈ l.toList := by
          simp only [Option.getD_some] at h3
          rw [← h3]; simp
        have := List.count_pos_iff.2 this
        omega
    refine ⟨hnil, hQ a w ?_⟩
    rw [← hall l hl hnil]; exact hs
  | succ fuel ih =>
    intro l a w hl hcnt hD hs
    refine ⟨fun hnil => hQ a w (by rw [← hall l hl hnil]; exact hs), fun j hj => ?_⟩
    unfold Region.ready at hj
    obtain ⟨h1, h2⟩ := List.mem_filter.1 hj
    have hjl : j < ops.length := by simpa using List.mem_range.1 h1
    rw [Bool.and_eq_true] at h2
    have h3 : l[j]? = some false := by
      have h3 := h2.1
      rw [Array.getD_eq_getD_getElem?, Array.getElem?_eq_getElem (by omega)] at h3
      rw [Array.getElem?_eq_getElem (by omega)]
      simpa using h3
    have hDj : listD l j = false := by unfold listD; rw [Array.getD_eq_getD_getElem?, h3]; rfl
    have hset : listD (l.setIfInBounds j true) = setD (listD l) j := by
      funext i
      unfold listD setD
      rw [Array.getD_eq_getD_getElem?, Array.getElem?_setIfInBounds]
      by_cases hij : j = i
      · subst hij; simp [hl, hjl]
      · rw [if_neg hij]
        have : (i == j) = false := by rw [beq_eq_false_iff_ne]; exact fun e => hij e.symm
        rw [this, Bool.false_or]
        exact (Array.getD_eq_getD_getElem? (xs := l) (i := i) (d := false)).symm
    have hD' : DC ops (setD (listD l) j) := by
      intro k o ho hk e he hb
      by_cases hkj : k = j
      · subst hkj
        have e2 : ops.toArray[k]? = some o := by rw [List.getElem?_toArray]; exact ho
        have h4 := h2.2
        rw [e2] at h4
        simp only [Option.map_some, Option.getD_some] at h4
        rw [← Array.all_toList, List.all_eq_true] at h4
        have := h4 e he
        rw [hb] at this
        simp only [Bool.not_true, Bool.false_or] at this
        simp [setD, listD, this]
      · have : listD l k = true := by simpa [setD, hkj] using hk
        simp [setD, hD k o ho this e he hb]
    refine drawF_step hes hc hE hap hD hjl hDj hD' hs fun a w hs' => ih _ a w (by simpa using hl) ?_ (by rw [hset]; exact hD') (by rw [hset]; exact hs')
    have hmem : l.toList[j]? = some false := by rw [Array.getElem?_toList]; exact h3
    have hlt : j < l.toList.length := (List.getElem?_eq_some_iff.1 hmem).1
    rw [Array.toList_setIfInBounds, List.count_set hlt]
    have h5 : l.toList[j] = false := by rw [List.getElem?_eq_getElem hlt] at hmem; injection hmem
    have hpos : 0 < l.toList.count false := List.count_pos_iff.2 (by rw [← h5]; exact List.getElem_mem _)
    simp [h5]
    simp at hcnt hpos
    omega
end

/-! ### one operation after another -/
/-- The state of a frame. -/
def FSt (w0 : World) (S : Nat → Prop) (φ0 : Prot) (ι0 : Map) (N : Nat) (M : Nat → Blk) (tm : List Val) (a : Act) (w : World) : Prop :=
  ∃ ι φ, Inv w0 S φ0 ι φ M w ∧ TmOk ι φ tm a.tmps ∧ (∀ b, N ≤ b → ι b = none) ∧ MapLe ι0 ι ∧ a.defers = []
/-- What is known of a call, whatever it makes. -/
structure RetS (P : Program) (f : FuncId) (az : List Val) (N : Nat) (M : Nat → Blk) (Post : Val → Nat → (Nat → Blk) → Prop) : Prop where
  fn : ∃ fn c, P.funcs[f]? = some fn ∧ (fn.name == "runtime.NumGoroutine") = false ∧ fn.body = some c
  run : ∀ (w0 : World) (S : Nat → Prop) (φ0 : Prot) (ι : Map) (φ : Prot) (w : World) (cargs : Array Value), Inv w0 S φ0 ι φ M w → TmOk ι φ az cargs → (∀ b, N ≤ b → ι b = none) →
    Calls P f cargs w fun e w' => ∃ v N' M' cv ι' φ', Post v N' M' ∧ N ≤ N' ∧ e = .returned cv ∧ Rel ι' φ' v cv ∧ Inv w0 S φ0 ι' φ' M' w' ∧ MapLe ι ι' ∧ ProtLe φ φ' ∧ ∀ b, N' ≤ b → ι' b = none
inductive CalledS (P : Program) (f : FuncId) (az : List Val) (N : Nat) (M : Nat → Blk) (K : Val → Nat → (Nat → Blk) → Prop) : Prop
  | det (h : CalledF P f az N M fun v u _ N' => updF u M fun M' => K v N' M')
  | post (Post : Val → Nat → (Nat → Blk) → Prop) (hr : RetS P f az N M Post) (hk : ∀ v N' M', Post v N' M' → N ≤ N' → K v N' M')
  | lent (az' : List Val) (u0 : Upd) (r0 : List Nat) (hl : LendF M az az' u0 r0) (Post : Val → Nat → (Nat → Blk) → Prop) (hr : RetS P f az' N (applyF M u0) Post) (hk : ∀ v N' M', Post v N' M' → N ≤ N' → K v N' M')
  | weak (M1 : Nat → Blk) (hl : Less M1 M) (Post : Val → Nat → (Nat → Blk) → Prop) (hr : RetS P f az N M1 Post) (hk : ∀ v N' M', Post v N' M' → N ≤ N' → K v N' M')
def callS (P : Program) (fv : Val) (xs : List Val) (N : Nat) (M : Nat → Blk) (K : Val → Nat → (Nat → Blk) → Prop) : Prop :=
  match fv with
  | .fn f fs cs => appK fs xs fun a1 => appK a1 cs fun az => CalledS P f az N M K
  | _ => False
def opS (P : Program) (T : TypeId → TD) (o : Oper) (tm : List Val) (N : Nat) (M : Nat → Blk) (K : Val → Nat → (Nat → Blk) → Prop) : Prop :=
  match o.op with
  | .call c => match c.callee with
    | .value x => evK tm x fun fv => evsK tm c.args.toList fun xs => callS P fv xs N M K
    | _ => plainF T o tm N M fun v u _ N' => updF u M fun M' => K v N' M'
  | _ => plainF T o tm N M fun v u _ N' => updF u M fun M' => K v N' M'
def stepF (P : Program) (T : TypeId → TD) (o : Oper) (b : Bool) (tm : List Val) (N : Nat) (M : Nat → Blk) (C : List Val → Nat → (Nat → Blk) → Prop) : Prop :=
  match b with
  | true => opS P T o tm N M fun v N' M' => putDK tm o.dst v fun tm' => C tm' N' M'
  | false => putDK tm o.dst (.tup []) fun tm' => C tm' N M
def regF (P : Program) (T : TypeId → TD) (all : List Oper) : List Oper → List Val → Nat → (Nat → Blk) → (List Val → Nat → (Nat → Blk) → Prop) → Prop
  | [], tm, N, M, K => K tm N M
  | o :: rest, tm, N, M, K => wantK all o tm fun b tm => stepF P T o b tm N M fun tm' N' M' => regF P T all rest tm' N' M' K
def stepDF (P : Program) (T : TypeId → TD) (o : Oper) (b : Bool) (tm : List Val) (N : Nat) (M : Nat → Blk) (C : List Val → Nat → (Nat → Blk) → Log → Prop) : Prop :=
  match b with
  | true => opF P T o tm N M fun v u r N' => updF u M fun M' => putDK tm o.dst v fun tm' => domK u fun d => C tm' N' M' (r, d)
  | false => putDK tm o.dst (.tup []) fun tm' => C tm' N M ([], [])
def drawF (P : Program) (T : TypeId → TD) (all : List Oper) : List Oper → List Val → Nat → (Nat → Blk) → List Log → (List Val → Nat → (Nat → Blk) → List Log → Prop) → Prop
  | [], tm, N, M, lg, K => K tm N M lg
  | o :: rest, tm, N, M, lg, K => wantK all o tm fun b tm => stepDF P T o b tm N M fun tm' N' M' g => drawF P T all rest tm' N' M' (g :: lg) K
def revLK : List Log → List Log → (List Log → Prop) → Prop
  | [], acc, K => K acc
  | x :: l, acc, K => revLK l (x :: acc) K
theorem revLK_eq : ∀ (l acc : List Log) (K : List Log → Prop), revLK l acc K = K (l.reverse ++ acc)
  | [], acc, _ => rfl
  | x :: l, acc, K => by rw [revLK, revLK_eq l (x :: acc)]; simp
def drawnF (ops : List Oper) (K : List Val → Nat → (Nat → Blk) → Prop) : List Val → Nat → (Nat → Blk) → List Log → Prop := fun tm N M lg =>
  ancK [] ops fun az => Need (statsB ops az [] 0 ops = true) (revLK lg [] fun lg => dynK az [] 0 lg (K tm N M))
section
variable {P : Program} {T : TypeId → TD}
theorem regF_sound (hT : TOk P T) {all : List Oper} {w0 : World} {S : Nat → Prop} {φ0 : Prot} {ι0 : Map} {Q : Exit → Act → World → Prop} :
    ∀ {l : List Oper} {tm : List Val} {N : Nat} {M : Nat → Blk} {K : List Val → Nat → (Nat → Blk) → Prop} {a : Act} {w : World}, regF P T all l tm N M K → FSt w0 S φ0 ι0 N M tm a w →
      (∀ tm N M a w, K tm N M → FSt w0 S φ0 ι0 N M tm a w → Q .normal a w) → wpList P all.toArray Q l a w
  | [], tm, N, M, K, a, w, h, hs, hK => hK tm N M a w h hs
  | o :: rest, tm, N, M, K, a, w, h, hs, hK => by
    unfold regF at h
    obtain ⟨b, h, hw⟩ := wantK_ok h
    obtain ⟨ι, φ, hI, ht, hend, h0, hdf⟩ := hs
    have hw := hw ι φ a tm ht (fun _ _ _ _ _ => rfl)
    unfold wpList
    rw [hw]
    unfold stepF at h
    cases b with
    | false =>
      rw [putDK_eq] at h
      rw [if_neg (by simp)]
      exact regF_sound hT h ⟨ι, φ, hI, ht.put o.dst (rel_undef ι φ), hend, h0, by rw [put_defers, hdf]⟩ hK
    | true =>
      rw [if_pos rfl]
      refine .inl ?_
      have det : opF P T o tm N M (fun v u _ N' => updF u M fun M' => putDK tm o.dst v fun tm' => regF P T all rest tm' N' M' K) → o.wp P a w (wpList P all.toArray Q rest) Q := fun h => by
        obtain ⟨v, u, r, N', h1, hle, hf⟩ := opF_ok hT h
        rw [updF_eq, putDK_eq] at h1
        refine hf a w w0 S φ0 ι φ M tm _ _ hI ht (fun _ _ => rfl) (fun _ _ => rfl) (fun b hb _ => hend b hb) ⟨N, hend⟩ fun cv w' ι' φ' hv hI' hm hp2 hfr => ?_
        exact regF_sound hT h1 ⟨ι', φ', hI', (ht.mono hm hp2).put o.dst hv, fun b hb => (hfr b (.inr hb)).trans (hend b (by omega)), h0.trans hm, by rw [put_defers, hdf]⟩ hK
      have h : opS P T o tm N M fun v N' M' => putDK tm o.dst v fun tm' => regF P T all rest tm' N' M' K := h
      unfold opS at h
      split at h
      · rename_i c ho
        split at h
        · rename_i x hc
          rw [evK_eq, evsK_eq] at h
          unfold callS at h
          split at h
          case h_2 => exact h.elim
          rename_i f fs cs hfv
          rw [appK_eq, appK_eq] at h
          have fin : ∀ (cargs : Array Value) (az' : List Val) (M1 : Nat → Blk) (φ1 : Prot), (execOp a.eval o).run P w = .ok (.enter f cargs) w → ProtLe φ φ1 → Inv w0 S φ0 ι φ1 M1 w → TmOk ι φ1 az' cargs → ∀ Post, RetS P f az' N M1 Post → (∀ v N' M', Post v N' M' → N ≤ N' → putDK tm o.dst v fun tm' => regF P T all rest tm' N' M' K) → o.wp P a w (wpList P all.toArray Q rest) Q := fun cargs az' M1 φ1 hrun p1 I1 hargs Post hr hk => by
            unfold Oper.wp
            rw [hrun, Oper.upon_enter]
            refine (hr.run w0 S φ0 ι φ1 w cargs I1 hargs hend).mono fun e w' ⟨v, N', M', cv, ι', φ', hpost, hle, he, hv, hI', hm, hp, hfr⟩ => ?_
            subst he
            have h1 := hk v N' M' hpost hle
            rw [putDK_eq] at h1
            exact regF_sound hT h1 ⟨ι', φ', hI', (ht.mono hm (p1.trans hp)).put o.dst hv, hfr, h0.trans hm, by rw [put_defers, hdf]⟩ hK
          rcases h with h | ⟨Post, hr, hk⟩ | ⟨az', u0, r0, hl, Post, hr, hk⟩ | ⟨M1, hl, Post, hr, hk⟩
          · refine det ?_
            unfold opF
            simp only [ho, hc, evK_eq, evsK_eq, hfv, callF, appK_eq]
            exact h
          · obtain ⟨cargs, hargs, hrun⟩ := enter_ok (w := w) ho hc hfv ht (fun _ _ => rfl) hr.fn
            exact fin cargs _ M φ hrun (.refl _) hI hargs Post hr hk
          · obtain ⟨cargs, hargs, hrun⟩ := enter_ok (w := w) ho hc hfv ht (fun _ _ => rfl) hr.fn
            obtain ⟨len, _, _, hlend⟩ := hl.ok
            obtain ⟨φ1, p1, I1, R1⟩ := hlend w0 w S φ0 ι φ M (fun i => cargs.getD i undef) (fun b hb => .inl rfl) hI hargs.rel
            exact fin cargs az' _ φ1 hrun p1 I1 ⟨by rw [hargs.len, len], fun i hi => R1 i (by rwa [len] at hi)⟩ Post hr hk
          · obtain ⟨cargs, hargs, hrun⟩ := enter_ok (w := w) ho hc hfv ht (fun _ _ => rfl) hr.fn
            exact fin cargs _ M1 φ hrun (.refl _) (hI.less hl) hargs Post hr hk
        · rename_i hc
          refine det ?_
          unfold opF
          simp only [ho]
          exact h
      · rename_i ho
        refine det ?_
        unfold opF
        split
        · rename_i c hc; exact absurd hc (ho c)
        · exact h
theorem drawF_ok (hT : TOk P T) {all : List Oper} : ∀ {l : List Oper} {tm : List Val} {N : Nat} {M : Nat → Blk} {lg : List Log} {K : List Val → Nat → (Nat → Blk) → List Log → Prop}, drawF P T all l tm N M lg K →
    ∃ es : List Ent, es.map (·.o) = l ∧ ChainF P all es tm M N ∧ K (endTm es tm) (endN es N) (endH es M) ((es.map (·.log)).reverse ++ lg) ∧ N ≤ endN es N
  | [], tm, N, M, lg, K, h => ⟨[], rfl, trivial, h, Nat.le_refl _⟩
  | o :: rest, tm, N, M, lg, K, h => by
    unfold drawF at h
    obtain ⟨b, h, hw⟩ := wantK_ok h
    unfold stepDF at h
    cases b with
    | true =>
      obtain ⟨v, u, r, N', h, hle, hf⟩ := opF_ok hT h
      rw [updF_eq, putDK_eq, domK_eq] at h
      obtain ⟨es, h1, h2, h3, h4⟩ := drawF_ok hT h
      refine ⟨⟨o, true, v, u, r, N, N'⟩ :: es, by simp [h1], ⟨⟨fun _ => hf, (fun h => by cases h), hle, hw⟩, rfl, ?_⟩, ?_, ?_⟩
      · simpa only [Ent.tm, Ent.H] using h2
      · simpa [Ent.log, endTm, Ent.tm, endN, endH, Ent.H] using h3
      · simp only [endN]; omega
    | false =>
      rw [putDK_eq] at h
      obtain ⟨es, h1, h2, h3, h4⟩ := drawF_ok hT h
      refine ⟨⟨o, false, .tup [], [], [], N, N⟩ :: es, by simp [h1], ⟨⟨(fun h => by cases h), fun _ => ⟨rfl, rfl⟩, Nat.le_refl _, hw⟩, rfl, ?_⟩, ?_, ?_⟩
      · simpa [Ent.tm, Ent.H, applyF] using h2
      · simpa [Ent.log, endTm, Ent.tm, endN, endH, Ent.H, applyF] using h3
      · simp only [endN]; omega
theorem drawF_sound (hT : TOk P T) (hm : P.follows .mixedOrders = true) {id : Nat} {ops : Array Oper} {w0 : World} {S : Nat → Prop} {φ0 : Prot} {ι0 : Map} {tm : List Val} {N : Nat} {M : Nat → Blk} {K : List Val → Nat → (Nat → Blk) → Prop} (h : drawF P T ops.toList ops.toList tm N M [] (drawnF ops.toList K))
    {Q : Exit → Act → World → Prop} {a : Act} {w : World} (hs : FSt w0 S φ0 ι0 N M tm a w) (hQ : ∀ tm N M a w, K tm N M → FSt w0 S φ0 ι0 N M tm a w → Q .normal a w) : (Code.region id ops true).wp P Q a w := by
  obtain ⟨es, hes, hc, hd, hle⟩ := drawF_ok hT h
  unfold drawnF at hd
  rw [ancK_eq] at hd
  obtain ⟨hst, hdy⟩ := hd
  rw [revLK_eq, List.append_nil, List.append_nil, List.reverse_reverse] at hdy
  obtain ⟨hK, hD⟩ := dynK_ok hdy rfl
  have hS := statsB_ok hst rfl
  simp only [List.nil_append] at hS hD
  have hE : ∀ j o, ops.toList[j]? = some o → edgesB j o.after.toList = true := fun j o ho => (hS j o (Nat.zero_le _) ho).1
  have hap : ∀ i j e f, i < j → es[i]? = some e → es[j]? = some f → ((anc [] ops.toList).getD j 0).testBit i = true ∨ Apart ops.toList e f := fun i j e f hij he hf => by
    have ho : ∀ {i : Nat} {e : Ent}, es[i]? = some e → ops.toList[i]? = some e.o := fun {i e} he => by rw [← hes, List.getElem?_map, he]; rfl
    have hl : ∀ {i : Nat} {e : Ent}, es[i]? = some e → (es.map (·.log))[i]? = some e.log := fun {i e} he => by rw [List.getElem?_map, he]; rfl
    rcases (hS j f.o (Nat.zero_le _) (ho hf)).2 i e.o hij (ho he) with h1 | h1
    · exact .inl h1
    · rcases hD j f.log (Nat.zero_le _) (hl hf) i e.log hij (hl he) with h2 | ⟨h2, h3, h4⟩
      · exact .inl h2
      · exact .inr ⟨h1, h3, h2, h4⟩
  obtain ⟨ι, φ, hI, ht, hend, h0, hdf⟩ := hs
  refine wp_region_any hm ?_
  have hel : es.length = ops.toList.length := by rw [← hes, List.length_map]
  have hlD : listD (Array.replicate ops.size false) = fun _ => false := by
    funext i; unfold listD; rw [Array.getD_eq_getD_getElem?, Array.getElem?_replicate]; split <;> rfl
  have := drawF_any (Q := Q) (w0 := w0) (S := S) (φ0 := φ0) (ι0 := ι0) hes hc hE hap (fun a w ⟨ι, φ, hI, ht, hfree, h0, hdf⟩ => hQ _ _ _ a w hK ⟨ι, φ, ?_, ?_, fun b hb => hfree b (by omega) fun i e he _ ⟨_, h2⟩ => ?_, h0, hdf⟩)
    ops.size (Array.replicate ops.size false) a { w with drawn := w.drawn + 1 } (by simp) (by simp) (by rw [hlD]; intro j o _ h; cases h) ⟨ι, φ, ?_, ?_, fun b hb _ => hend b hb, h0, hdf⟩
  · simpa using this
  · rw [dH_all fun i hi => by simp; simpa [hel] using hi] at hI; exact hI
  · rw [dTm_all fun i hi => by simp; simpa [hel] using hi] at ht; exact ht
  · have := (chainF_get hc he).2.2.1; omega
  · rw [dH_none fun i => by rw [hlD]]; exact hI.drew _
  · rw [dTm_none fun i => by rw [hlD]]; exact ht
end
end
end Go.AM

