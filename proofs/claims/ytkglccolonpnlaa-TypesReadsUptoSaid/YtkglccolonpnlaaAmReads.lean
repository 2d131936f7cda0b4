/- What an expression reads, as a list without doubles. -/
import Derived.Test.YtkglccolonpnlaaAmHn
import Derived.Test.YtkglccolonpnlaaAmHr
import Derived.Test.YtkglccolonpnlaaAmGL
set_option linter.unusedVariables false
set_option linter.unusedSimpArgs false
set_option maxRecDepth 100000
namespace Go.AM
abbrev Re := ByteArray × ByteArray
def cRe (r : Re) : List Val := [.str r.1, .str r.2]
def ownR (x : Xp) : List Re := if x.kind = 2 then [(ByteArray.empty, x.name)] else if x.kind = 10 then [(x.sect, x.name)] else []
open Classical in
noncomputable def ins (l : List Re) (r : Re) : List Re := if r ∈ l then l else l ++ [r]
noncomputable def mrg (l m : List Re) : List Re := m.foldl ins l
noncomputable def readF (x : Xp) (l : List Re) : List Re := mrg l (ownR x)
theorem ins_mem {l : List Re} {r q : Re} : q ∈ ins l r ↔ q ∈ l ∨ q = r := by
  unfold ins
  split
  · rename_i h
    constructor
    · exact .inl
    · rintro (h1 | rfl)
      · exact h1
      · exact h
  · simp
theorem mrg_mem {q : Re} : ∀ {m l : List Re}, q ∈ mrg l m ↔ q ∈ l ∨ q ∈ m
  | [], l => by simp [mrg]
  | r :: m, l => by
    show q ∈ mrg (ins l r) m ↔ _
    rw [mrg_mem (m := m) (l := ins l r), ins_mem, List.mem_cons]
    constructor
    · rintro ((h | h) | h)
      · exact .inl h
      · exact .inr (.inl h)
      · exact .inr (.inr h)
    · rintro (h | h | h)
      · exact .inl (.inl h)
      · exact .inl (.inr h)
      · exact .inr h
theorem mrg_ins (l m : List Re) (r : Re) : mrg l (ins m r) = ins (mrg l m) r := by
  unfold ins
  by_cases h : r ∈ m
  · rw [if_pos h, if_pos (mrg_mem.2 (.inr h))]
  · rw [if_neg h]
    unfold mrg
    rw [List.foldl_append]
    rfl
theorem mrg_assoc (l : List Re) : ∀ (k m : List Re), mrg l (mrg m k) = mrg (mrg l m) k
  | [], _ => rfl
  | r :: k, m => by
    show mrg l (mrg (ins m r) k) = mrg (ins (mrg l m) r) k
    rw [mrg_assoc l k, mrg_ins]
theorem walkL_mrg : ∀ (r : List Xp), (∀ y ∈ r, ∀ l, walkF readF y l = mrg l (walkF readF y [])) → ∀ l, walkL readF r l = mrg l (walkL readF r [])
  | [], _, l => by rw [walkL_nil, walkL_nil]; rfl
  | x :: r, h, l => by
    have h1 := walkL_mrg r (fun y hy => h y (List.mem_cons_of_mem _ hy))
    have h0 := h x (List.mem_cons_self ..)
    rw [walkL_cons, walkL_cons, h1, h1 (walkF readF x []), h0 l, mrg_assoc]
theorem walkF_mrg (x : Xp) : ∀ l, walkF readF x l = mrg l (walkF readF x []) := by
  refine Xp.ind (Q := fun x => ∀ l, walkF readF x l = mrg l (walkF readF x [])) ?_ x
  clear x
  intro x ih l
  obtain ⟨k, o, n, s, v, sc, p, as1⟩ := x
  have h := walkL_mrg as1 ih
  rw [walkF_mk, walkF_mk, h, h (readF _ [])]
  generalize walkL readF as1 [] = w
  unfold readF
  generalize ownR _ = own
  rw [mrg_assoc, mrg_assoc]
  rfl
/-! ### the last one first -/
open Classical in
noncomputable def insR (rl : List Re) (r : Re) : List Re := if r ∈ rl then rl else r :: rl
noncomputable def readR (x : Xp) (rl : List Re) : List Re := (ownR x).foldl insR rl
theorem insR_rev (rl : List Re) (r : Re) : (insR rl r).reverse = ins rl.reverse r := by
  unfold insR ins
  by_cases h : r ∈ rl
  · rw [if_pos h, if_pos (List.mem_reverse.2 h)]
  · rw [if_neg h, if_neg (fun k => h (List.mem_reverse.1 k)), List.reverse_cons]
theorem readR_rev (x : Xp) (rl : List Re) : (readR x rl).reverse = readF x rl.reverse := by
  unfold readR readF mrg
  generalize ownR x = l
  induction l generalizing rl with
  | nil => rfl
  | cons r l ih => rw [List.foldl_cons, List.foldl_cons, ih, insR_rev]
theorem walkF_rev (x : Xp) : ∀ rl, (walkF readR x rl).reverse = walkF readF x rl.reverse := by
  refine Xp.ind (Q := fun x => ∀ rl, (walkF readR x rl).reverse = walkF readF x rl.reverse) ?_ x
  clear x
  intro x ih rl
  obtain ⟨k, o, n, s, v, sc, p, as1⟩ := x
  rw [walkF_mk, walkF_mk, ← readR_rev]
  generalize readR _ rl = r1
  have key : ∀ (l : List Xp), (∀ y ∈ l, ∀ rl, (walkF readR y rl).reverse = walkF readF y rl.reverse) → ∀ r1, (walkL readR l r1).reverse = walkL readF l r1.reverse := by
    intro l
    induction l with
    | nil => intro _ r1; rw [walkL_nil, walkL_nil]
    | cons y l il => intro h r1; rw [walkL_cons, walkL_cons, il (fun z hz => h z (List.mem_cons_of_mem _ hz)), h y (List.mem_cons_self ..)]
  exact key as1 ih r1
theorem ownR_len (x : Xp) : ownR x = [] ∨ ∃ r, ownR x = [r] := by
  unfold ownR
  split
  · exact .inr ⟨_, rfl⟩
  · split
    · exact .inr ⟨_, rfl⟩
    · exact .inl rfl
theorem insR_len (rl : List Re) (r : Re) : rl.length ≤ (insR rl r).length ∧ (insR rl r).length ≤ rl.length + 1 ∧ ((insR rl r).length = rl.length → insR rl r = rl) := by
  unfold insR
  split <;> simp
theorem readR_len (x : Xp) (rl : List Re) : rl.length ≤ (readR x rl).length ∧ (readR x rl).length ≤ rl.length + 1 ∧ ((readR x rl).length = rl.length → readR x rl = rl) := by
  unfold readR
  rcases ownR_len x with h | ⟨r, h⟩ <;> rw [h]
  · simp
  · exact insR_len rl r
theorem walkL_len : ∀ (l : List Xp), (∀ y ∈ l, ∀ rl, rl.length ≤ (walkF readR y rl).length ∧ (walkF readR y rl).length ≤ rl.length + cntX y ∧ ((walkF readR y rl).length = rl.length → walkF readR y rl = rl)) →
    ∀ rl, rl.length ≤ (walkL readR l rl).length ∧ (walkL readR l rl).length ≤ rl.length + cntL l ∧ ((walkL readR l rl).length = rl.length → walkL readR l rl = rl)
  | [], _, rl => by rw [walkL_nil, cntL_nil]; simp
  | x :: l, h, rl => by
    have h0 := h x (List.mem_cons_self ..) rl
    have h1 := walkL_len l (fun y hy => h y (List.mem_cons_of_mem _ hy)) (walkF readR x rl)
    rw [walkL_cons, cntL_cons]
    refine ⟨by omega, by omega, fun e => ?_⟩
    have e1 := h0.2.2 (by omega)
    have e2 := h1.2.2 (by omega)
    rw [e2, e1]
theorem walkF_len (x : Xp) : ∀ rl, rl.length ≤ (walkF readR x rl).length ∧ (walkF readR x rl).length ≤ rl.length + cntX x ∧ ((walkF readR x rl).length = rl.length → walkF readR x rl = rl) := by
  refine Xp.ind (Q := fun x => ∀ rl, rl.length ≤ (walkF readR x rl).length ∧ (walkF readR x rl).length ≤ rl.length + cntX x ∧ ((walkF readR x rl).length = rl.length → walkF readR x rl = rl)) ?_ x
  clear x
  intro x ih rl
  obtain ⟨k, o, n, s, v, sc, p, as1⟩ := x
  rw [walkF_mk, cntX_mk]
  have h0 := readR_len (.mk k o n s v sc p as1) rl
  have h1 := walkL_len as1 ih (readR (.mk k o n s v sc p as1) rl)
  refine ⟨by omega, by omega, fun e => ?_⟩
  have e1 := h0.2.2 (by omega)
  have e2 := h1.2.2 (by omega)
  rw [e2, e1]
theorem walkL_len' (l : List Xp) (rl : List Re) : rl.length ≤ (walkL readR l rl).length ∧ (walkL readR l rl).length ≤ rl.length + cntL l ∧ ((walkL readR l rl).length = rl.length → walkL readR l rl = rl) := walkL_len l (fun y _ => walkF_len y) rl
/-- a row of such, grown by one at a time -/
def gR : List Re → Nat → List Val
  | [], _ => []
  | [r], j => (pieces 2 1 (cRe r)).getD j []
  | r :: q :: t, j => if j < (q :: t).length then gR (q :: t) j else (fun i => (pieces 2 1 (cRe r)).getD i []) (j - (q :: t).length)
theorem gR_at : ∀ (rl : List Re) (j : Nat) (h : j < rl.reverse.length), gR rl j = cRe (rl.reverse[j])
  | [], j, h => absurd h (by simp)
  | [r], j, h => by
    obtain rfl : j = 0 := by simp at h; omega
    rfl
  | r :: q :: t, j, h => by
    show (if j < (q :: t).length then gR (q :: t) j else _) = _
    simp only [List.reverse_cons (a := r)]
    by_cases hj : j < (q :: t).length
    · rw [if_pos hj, List.getElem_append_left (by simpa using hj)]
      exact gR_at (q :: t) j (by simpa using hj)
    · have hj2 : j = (q :: t).length := by simp at h hj ⊢; omega
      subst hj2
      rw [if_neg hj, Nat.sub_self, List.getElem_append_right (by simp)]
      simp
      rfl
/-- what was seen -/
def mpR (rl : List Re) : List (CK × Unit) := rl.reverse.map fun r => (r, ())
theorem aget_mpR {r : Re} {l : List Re} : aget r (l.map fun r => (r, ())) = none ↔ r ∉ l := by
  induction l with
  | nil => simp [aget]
  | cons q l ih =>
    rw [List.map_cons]
    unfold aget
    by_cases h : q = r
    · rw [if_pos h]; simp [h]
    · rw [if_neg h, ih]; simp [Ne.symm h]
theorem aput_map {r : Re} {l : List Re} (h : r ∉ l) : aput r () (l.map fun r => (r, ())) = (l ++ [r]).map fun r => (r, ()) := by
  induction l with
  | nil => rfl
  | cons q l ih =>
    rw [List.map_cons]
    unfold aput
    have hq : ¬ q = r := fun e => h (by simp [e])
    rw [if_neg hq, ih (fun k => h (List.mem_cons_of_mem _ k))]
    rfl
theorem seen_put {r : Re} {rl : List Re} (h : r ∉ rl) : mput (kC r) (cT ()) (encM kC cT (mpR rl)) = encM kC cT (mpR (r :: rl)) := by
  rw [mput_enc kC_inj]
  unfold mpR
  rw [aput_map (fun k => h (List.mem_reverse.1 k)), List.reverse_cons]
theorem seen_no {r : Re} {rl : List Re} (h : r ∉ rl) : mfind (kC r) (encM kC cT (mpR rl)) = none := by
  rw [mfind_enc kC_inj]
  have : aget r (mpR rl) = none := aget_mpR.2 (fun k => h (List.mem_reverse.1 k))
  rw [this]; rfl
theorem seen_yes {r : Re} {rl : List Re} (h : r ∈ rl) : mfind (kC r) (encM kC cT (mpR rl)) = some [.bool true] := by
  rw [mfind_enc kC_inj]
  cases hg : aget r (mpR rl) with
  | none => exact absurd (List.mem_reverse.2 h) (aget_mpR.1 hg)
  | some u => rfl
theorem Ret.raise {P : Program} {f : FuncId} {as' : List Val} {v : Val} {h h1 : List Blk} (hr : Ret P f as' h v h1) : Ret P f as' h v (h1.map raiseB) := by
  refine ⟨hr.1, fun ι φ w cargs k1 k2 k3 => (hr.2 ι φ w cargs k1 k2 k3).mono ?_⟩
  rintro e w' ⟨cv, ι', φ', rfl, hm, hI, hv, hend⟩
  refine ⟨cv, ι', φ', rfl, hm, hI.raise fun b => ?_, hv, fun b hb => hend b (by simpa using hb)⟩
  rcases Nat.lt_or_ge b h1.length with hb | hb
  · exact .inr (by simp [getH, List.getD_eq_getElem?_getD, hb])
  · exact .inl (by rw [getH_ge hb, getH_ge (by simpa using hb)])
/-! ### as the document gathers them -/
theorem walkL_append (f : Xp → List Re → List Re) : ∀ (a b : List Xp) (r : List Re), walkL f (a ++ b) r = walkL f b (walkL f a r)
  | [], b, r => by rw [walkL_nil]; rfl
  | x :: a, b, r => by rw [List.cons_append, walkL_cons, walkL_cons, walkL_append f a b]
theorem foldl_rev : ∀ (m rl : List Re), (m.foldl insR rl).reverse = mrg rl.reverse m
  | [], _ => rfl
  | r :: m, rl => by
    show (m.foldl insR (insR rl r)).reverse = m.foldl ins (ins rl.reverse r)
    rw [foldl_rev m (insR rl r), insR_rev]; rfl
theorem walk_fold (y : Xp) (rl : List Re) : (walkF readF y []).foldl insR rl = walkF readR y rl := by
  have h : ((walkF readF y []).foldl insR rl).reverse = (walkF readR y rl).reverse := by rw [foldl_rev, walkF_rev, ← walkF_mrg]
  have := congrArg List.reverse h
  rwa [List.reverse_reverse, List.reverse_reverse] at this
theorem take_fold {m : List Re} {k : Nat} (h : k < m.length) (rl : List Re) : (m.take (k + 1)).foldl insR rl = insR ((m.take k).foldl insR rl) m[k] := by
  rw [List.take_succ_eq_append_getElem h, List.foldl_append]; rfl
theorem take_walk {l : List Xp} {i : Nat} (h : i < l.length) (rl : List Re) : walkL readR (l.take (i + 1)) rl = walkF readR l[i] (walkL readR (l.take i) rl) := by
  rw [List.take_succ_eq_append_getElem h, walkL_append, walkL_cons, walkL_nil]
theorem extR (rl : List Re) : ExtL cRe rl.length (gR rl) rl.reverse := ⟨by simp, fun i h => gR_at rl i h⟩
theorem eqRe (a b : Re) : ((a.1.toList == b.1.toList) && ((a.2.toList == b.2.toList) && true)) = decide (a = b) := by
  rw [toList_eq, toList_eq, Bool.and_true, Bool.eq_iff_iff]
  simp only [Bool.and_eq_true, decide_eq_true_eq]
  exact ⟨fun h => Prod.ext h.1 h.2, fun h => by rw [h]; exact ⟨rfl, rfl⟩⟩
theorem mem_take {l : List Re} {j : Nat} {r : Re} (h : j < l.length) : r ∈ l.take (j + 1) ↔ r ∈ l.take j ∨ l[j] = r := by
  rw [List.take_succ_eq_append_getElem h, List.mem_append, List.mem_singleton]
  exact ⟨fun k => k.imp id Eq.symm, fun k => k.imp id Eq.symm⟩
/-- how much of the row is given up to be read, at an argument's end -/
noncomputable def prR (l : List Xp) (own : List Re) : Nat → Nat
  | 0 => 0
  | i + 1 => (walkL readR (l.take i) own).length
end Go.AM

