/- What an expression reads, as a list without doubles. -/
import Derived.Test.YtkglccolonpnlaaAmHn
import Derived.Test.YtkglccolonpnlaaAmHr
import Derived.Test.YtkglccolonpnlaaAmGL
set_option linter.unusedVariables false
set_option linter.unusedSimpArgs false
set_option maxRecDepth 100000
namespace Go.AM
abbrev Re := ByteArray × ByteArray
def cRe (r : Re) : List Val := [.str r.1, .str r.2]
def ownR (x : Xp) : List Re := if x.kind = 2 then [(ByteArray.empty, x.name)] else if x.kind = 10 then [(x.sect, x.name)] else []
open Classical in
noncomputable def ins (l : List Re) (r : Re) : List Re := if r ∈ l then l else l ++ [r]
noncomputable def mrg (l m : List Re) : List Re := m.foldl ins l
noncomputable def readF (x : Xp) (l : List Re) : List Re := mrg l (ownR x)
/-! ### the last one first -/
open Classical in
noncomputable def insR (rl : List Re) (r : Re) : List Re := if r ∈ rl then rl else r :: rl
noncomputable def readR (x : Xp) (rl : List Re) : List Re := (ownR x).foldl insR rl
theorem insR_rev (rl : List Re) (r : Re) : (insR rl r).reverse = ins rl.reverse r := by
  unfold insR ins
  by_cases h : r ∈ rl
  · rw [if_pos h, if_pos (List.mem_reverse.2 h)]
  · rw [if_neg h, if_neg (fun k => h (List.mem_reverse.1 k)), List.reverse_cons]
theorem readR_rev (x : Xp) (rl : List Re) : (readR x rl).reverse = readF x rl.reverse := by
  unfold readR readF mrg
  generalize ownR x = l
  induction l generalizing rl with
  | nil => rfl
  | cons r l ih => rw [List.foldl_cons, List.foldl_cons, ih, insR_rev]
theorem walkF_rev (x : Xp) : ∀ rl, (walkF readR x rl).reverse = walkF readF x rl.reverse := by
  refine Xp.ind (Q := fun x => ∀ rl, (walkF readR x rl).reverse = walkF readF x rl.reverse) ?_ x
  clear x
  intro x ih rl
  obtain ⟨k, o, n, s, v, sc, p, as1⟩ := x
  rw [walkF_mk, walkF_mk, ← readR_rev]
  generalize readR _ rl = r1
  have key : ∀ (l : List Xp), (∀ y ∈ l, ∀ rl, (walkF readR y rl).reverse = walkF readF y rl.reverse) → ∀ r1, (walkL readR l r1).reverse = walkL readF l r1.reverse := by
    intro l
    induction l with
    | nil => intro _ r1; rw [walkL_nil, walkL_nil]
    | cons y l il => intro h r1; rw [walkL_cons, walkL_cons, il (fun z hz => h z (List.mem_cons_of_mem _ hz)), h y (List.mem_cons_self ..)]
  exact key as1 ih r1
theorem ownR_len (x : Xp) : ownR x = [] ∨ ∃ r, ownR x = [r] := by
  unfold ownR
  split
  · exact .inr ⟨_, rfl⟩
  · split
    · exact .inr ⟨_, rfl⟩
    · exact .inl rfl
theorem insR_len (rl : List Re) (r : Re) : rl.length ≤ (insR rl r).length ∧ (insR rl r).length ≤ rl.length + 1 ∧ ((insR rl r).length = rl.length → insR rl r = rl) := by
  unfold insR
  split <;> simp
theorem readR_len (x : Xp) (rl : List Re) : rl.length ≤ (readR x rl).length ∧ (readR x rl).length ≤ rl.length + 1 ∧ ((readR x rl).length = rl.length → readR x rl = rl) := by
  unfold readR
  rcases ownR_len x with h | ⟨r, h⟩ <;> rw [h]
  · simp
  · exact insR_len rl r
theorem walkL_len : ∀ (l : List Xp), (∀ y ∈ l, ∀ rl, rl.length ≤ (walkF readR y rl).length ∧ (walkF readR y rl).length ≤ rl.length + cntX y ∧ ((walkF readR y rl).length = rl.length → walkF readR y rl = rl)) →
    ∀ rl, rl.length ≤ (walkL readR l rl).length ∧ (walkL readR l rl).length ≤ rl.length + cntL l ∧ ((walkL readR l rl).length = rl.length → walkL readR l rl = rl)
  | [], _, rl => by rw [walkL_nil, cntL_nil]; simp
  | x :: l, h, rl => by
    have h0 := h x (List.mem_cons_self ..) rl
    have h1 := walkL_len l (fun y hy => h y (List.mem_cons_of_mem _ hy)) (walkF readR x rl)
    rw [walkL_cons, cntL_cons]
    refine ⟨by omega, by omega, fun e => ?_⟩
    have e1 := h0.2.2 (by omega)
    have e2 := h1.2.2 (by omega)
    rw [e2, e1]
theorem walkF_len (x : Xp) : ∀ rl, rl.length ≤ (walkF readR x rl).length ∧ (walkF readR x rl).length ≤ rl.length + cntX x ∧ ((walkF readR x rl).length = rl.length → walkF readR x rl = rl) := by
  refine Xp.ind (Q := fun x => ∀ rl, rl.length ≤ (walkF readR x rl).length ∧ (walkF readR x rl).length ≤ rl.length + cntX x ∧ ((walkF readR x rl).length = rl.length → walkF readR x rl = rl)) ?_ x
  clear x
  intro x ih rl
  obtain ⟨k, o, n, s, v, sc, p, as1⟩ := x
  rw [walkF_mk, cntX_mk]
  have h0 := readR_len (.mk k o n s v sc p as1) rl
  have h1 := walkL_len as1 ih (readR (.mk k o n s v sc p as1) rl)
  refine ⟨by omega, by omega, fun e => ?_⟩
  have e1 := h0.2.2 (by omega)
  have e2 := h1.2.2 (by omega)
  rw [e2, e1]
theorem walkL_len' (l : List Xp) (rl : List Re) : rl.length ≤ (walkL readR l rl).length ∧ (walkL readR l rl).length ≤ rl.length + cntL l ∧ ((walkL readR l rl).length = rl.length → walkL readR l rl = rl) := walkL_len l (fun y _ => walkF_len y) rl
/-- a row of such, grown by one at a time -/
def gR : List Re → Nat → List Val
  | [], _ => []
  | [r], j => (pieces 2 1 (cRe r)).getD j []
  | r :: q :: t, j => if j < (q :: t).length then gR (q :: t) j else (fun i => (pieces 2 1 (cRe r)).getD i []) (j - (q :: t).length)
theorem gR_at : ∀ (rl : List Re) (j : Nat) (h : j < rl.reverse.length), gR rl j = cRe (rl.reverse[j])
  | [], j, h => absurd h (by simp)
  | [r], j, h => by
    obtain rfl : j = 0 := by simp at h; omega
    rfl
  | r :: q :: t, j, h => by
    show (if j < (q :: t).length then gR (q :: t) j else _) = _
    simp only [List.reverse_cons (a := r)]
    by_cases hj : j < (q :: t).length
    · rw [if_pos hj, List.getElem_append_left (by simpa using hj)]
      exact gR_at (q :: t) j (by simpa using hj)
    · have hj2 : j = (q :: t).length := by simp at h hj ⊢; omega
      subst hj2
      rw [if_neg hj, Nat.sub_self, List.getElem_append_right (by simp)]
      simp
      rfl
/-- what was seen -/
def mpR (rl : List Re) : List (CK × Unit) := rl.reverse.map fun r => (r, ())
theorem aget_mpR {r : Re} {l : List Re} : aget r (l.map fun r => (r, ())) = none ↔ r ∉ l := by
  induction l with
  | nil => simp [aget]
  | cons q l ih =>
    rw [List.map_cons]
    unfold aget
    by_cases h : q = r
    · rw [if_pos h]; simp [h]
    · rw [if_neg h, ih]; simp [Ne.symm h]
theorem aput_map {r : Re} {l : List Re} (h : r ∉ l) : aput r () (l.map fun r => (r, ())) = (l ++ [r]).map fun r => (r, ()) := by
  induction l with
  | nil => rfl
  | cons q l ih =>
    rw [List.map_cons]
    unfold aput
    have hq : ¬ q = r := fun e => h (by simp [e])
    rw [if_neg hq, ih (fun k => h (List.mem_cons_of_mem _ k))]
    rfl
theorem seen_put {r : Re} {rl : List Re} (h : r ∉ rl) : mput (kC r) (cT ()) (encM kC cT (mpR rl)) = encM kC cT (mpR (r :: rl)) := by
  rw [mput_enc kC_inj]
  unfold mpR
  rw [aput_map (fun k => h (List.mem_reverse.1 k)), List.reverse_cons]
theorem seen_no {r : Re} {rl : List Re} (h : r ∉ rl) : mfind (kC r) (encM kC cT (mpR rl)) = none := by
  rw [mfind_enc kC_inj]
  have : aget r (mpR rl) = none := aget_mpR.2 (fun k => h (List.mem_reverse.1 k))
  rw [this]; rfl
theorem seen_yes {r : Re} {rl : List Re} (h : r ∈ rl) : mfind (kC r) (encM kC cT (mpR rl)) = some [.bool true] := by
  rw [mfind_enc kC_inj]
  cases hg : aget r (mpR rl) with
  | none => exact absurd (List.mem_reverse.2 h) (aget_mpR.1 hg)
  | some u => rfl
theorem Ret.raise {P : Program} {f : FuncId} {as' : List Val} {v : Val} {h h1 : List Blk} (hr : Ret P f as' h v h1) : Ret P f as' h v (h1.map raiseB) := by
  refine ⟨hr.1, fun ι φ w cargs k1 k2 k3 => (hr.2 ι φ w cargs k1 k2 k3).mono ?_⟩
  rintro e w' ⟨cv, ι', φ', rfl, hm, hI, hv, hend⟩
  refine ⟨cv, ι', φ', rfl, hm, hI.raise fun b => ?_, hv, fun b hb => hend b (by simpa using hb)⟩
  rcases Nat.lt_or_ge b h1.length with hb | hb
  · exact .inr (by simp [getH, List.getD_eq_getElem?_getD, hb])
  · exact .inl (by rw [getH_ge hb, getH_ge (by simpa using hb)])
/-! ### as the document gathers them -/
theorem extR (rl : List Re) : ExtL cRe rl.length (gR rl) rl.reverse := ⟨by simp, fun i h => gR_at rl i h⟩
end Go.AM

