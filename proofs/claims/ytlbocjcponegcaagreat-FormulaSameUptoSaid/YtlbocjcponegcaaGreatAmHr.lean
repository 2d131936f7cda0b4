/- An expression folded, as it is specified; folding changes nothing; how many nodes. -/
import Derived.Test.YtlbocjcponegcaaGreatAmEx3
import Derived.Test.YtlbocjcponegcaaGreatAmHi
import Derived.Test.YtlbocjcponegcaaGreatAmHn
import Derived.Test.YtlbocjcponegcaaGreatAmGV
set_option linter.unusedVariables false
set_option linter.unusedSimpArgs false
set_option maxRecDepth 100000
namespace Go.AM
def constX (x : Xp) : Bool := decide (x.kind = 1) && decide (x.args.length = 0)
def c0 (v : Vl) : Xp := .mk 1 0 ByteArray.empty ByteArray.empty v 0 0 []
def xp0 : Xp := c0 Vl0
def env0 (tabs : List Tb) : EnvS := ⟨[], [], tabs⟩
noncomputable def foldN (tabs : List Tb) (k o : Int) (n s : ByteArray) (v : Vl) (sc p : Int) (l : List Xp) : Xp :=
  if (l.length : Int) ≠ argsN k then .mk k o n s v sc p l else
  if k = 6 ∧ constX (l.getD 0 xp0) = true ∧ (l.getD 0 xp0).val.valid ∧ (l.getD 0 xp0).val.kind = 2 ∧ l.all constX = false then (if (l.getD 0 xp0).val.flag then l.getD 1 xp0 else l.getD 2 xp0) else
  if l.all constX = false ∨ k = 2 ∨ k = 10 then .mk k o n s v sc p l else c0 (evalE (env0 tabs) (.mk k o n s v sc p l))
/-- as the document has it -/
noncomputable def foldR (tabs : List Tb) (k o : Int) (n s : ByteArray) (v : Vl) (sc p : Int) (l : List Xp) : Xp :=
  if argsN k ≠ (l.length : Int) then .mk k o n s v sc p l else
  if l.all constX = true ∧ k ≠ 2 ∧ k ≠ 10 then c0 (evalE (env0 tabs) (.mk k o n s v sc p l)) else
  if k = 6 ∧ constX (l.getD 0 xp0) = true ∧ (l.getD 0 xp0).val.kind = 2 then (if (l.getD 0 xp0).val.flag then l.getD 1 xp0 else l.getD 2 xp0) else .mk k o n s v sc p l
mutual
noncomputable def foldE (tabs : List Tb) : Xp → Xp
  | .mk k o n s v sc p l => foldN tabs k o n s v sc p (foldL tabs l)
noncomputable def foldL (tabs : List Tb) : List Xp → List Xp
  | [] => []
  | x :: r => foldE tabs x :: foldL tabs r
end
theorem foldL_map (tabs : List Tb) : ∀ l : List Xp, foldL tabs l = l.map (foldE tabs)
  | [] => by unfold foldL; rfl
  | x :: r => by unfold foldL; rw [foldL_map tabs r]; rfl
theorem foldE_mk (tabs : List Tb) (k o : Int) (n s : ByteArray) (v : Vl) (sc p : Int) (l : List Xp) : foldE tabs (.mk k o n s v sc p l) = foldN tabs k o n s v sc p (l.map (foldE tabs)) := by
  unfold foldE; rw [foldL_map]
theorem args_10 : argsN 1 = 0 := by decide
theorem constX_mk {k o : Int} {n s : ByteArray} {v : Vl} {sc p : Int} {l : List Xp} (h : constX (.mk k o n s v sc p l) = true) : k = 1 ∧ l = [] := by
  have h : (decide (k = 1) && decide (l.length = 0)) = true := h
  rw [Bool.and_eq_true, decide_eq_true_eq, decide_eq_true_eq] at h
  exact ⟨h.1, List.eq_nil_of_length_eq_zero h.2⟩
/-- what foldN comes to, by ways -/
theorem foldN_ways (tabs : List Tb) (k o : Int) (n s : ByteArray) (v : Vl) (sc p : Int) (l : List Xp) :
    ((l.length : Int) ≠ argsN k ∧ foldN tabs k o n s v sc p l = .mk k o n s v sc p l) ∨
    ((l.length : Int) = argsN k ∧ k = 6 ∧ constX (l.getD 0 xp0) = true ∧ (l.getD 0 xp0).val.valid ∧ (l.getD 0 xp0).val.kind = 2 ∧ l.all constX = false ∧ foldN tabs k o n s v sc p l = if (l.getD 0 xp0).val.flag then l.getD 1 xp0 else l.getD 2 xp0) ∨
    ((l.length : Int) = argsN k ∧ (l.all constX = false ∨ k = 2 ∨ k = 10) ∧ foldN tabs k o n s v sc p l = .mk k o n s v sc p l) ∨
    ((l.length : Int) = argsN k ∧ l.all constX = true ∧ k ≠ 2 ∧ k ≠ 10 ∧ foldN tabs k o n s v sc p l = c0 (evalE (env0 tabs) (.mk k o n s v sc p l))) := by
  unfold foldN
  by_cases h1 : (l.length : Int) ≠ argsN k
  · rw [if_pos h1]; exact .inl ⟨h1, rfl⟩
  rw [if_neg h1]
  have h1 : (l.length : Int) = argsN k := by omega
  split
  · rename_i h2; exact .inr (.inl ⟨h1, h2.1, h2.2.1, h2.2.2.1, h2.2.2.2.1, h2.2.2.2.2, rfl⟩)
  split
  · rename_i h2 h3; exact .inr (.inr (.inl ⟨h1, h3, rfl⟩))
  · rename_i h2 h3
    simp only [not_or] at h3
    exact .inr (.inr (.inr ⟨h1, by simpa using h3.1, h3.2.1, h3.2.2, rfl⟩))
theorem getD_mem3 {l : List Xp} (h : l.length = 3) : l.getD 0 xp0 ∈ l ∧ l.getD 1 xp0 ∈ l ∧ l.getD 2 xp0 ∈ l := by
  match l, h with
  | [a, b, c], _ => simp
theorem len3 {l : List Xp} {k : Int} (h : (l.length : Int) = argsN k) (hk : k = 6) : l.length = 3 := by
  subst hk
  have : argsN 6 = 3 := by decide
  omega
/-- a constant that came of folding may be -/
theorem foldE_const (tabs : List Tb) (x : Xp) : constX (foldE tabs x) = true → (foldE tabs x).val.valid := by
  refine Xp.ind (Q := fun x => constX (foldE tabs x) = true → (foldE tabs x).val.valid) ?_ x
  clear x
  intro x ih
  obtain ⟨k, o, n, s, v, sc, p, l⟩ := x
  have ih : ∀ y ∈ l.map (foldE tabs), constX y = true → y.val.valid := fun y hy hc => by
    obtain ⟨z, hz, rfl⟩ := List.mem_map.1 hy
    exact ih z hz hc
  rw [foldE_mk]
  generalize l.map (foldE tabs) = m at *
  rcases foldN_ways tabs k o n s v sc p m with ⟨h1, e⟩ | ⟨h1, h2, h3, h4, h5, h6, e⟩ | ⟨h1, h2, e⟩ | ⟨h1, h2, h3, h4, e⟩ <;> rw [e]
  · intro hc
    obtain ⟨rfl, rfl⟩ := constX_mk hc
    exact absurd (by decide) h1
  · intro hc
    obtain ⟨m0, m1, m2⟩ := getD_mem3 (len3 h1 h2)
    split at hc
    · rename_i hf; rw [if_pos hf]; exact ih _ m1 hc
    · rename_i hf; rw [if_neg hf]; exact ih _ m2 hc
  · intro hc
    obtain ⟨rfl, rfl⟩ := constX_mk hc
    rcases h2 with h2 | h2 | h2
    · simp at h2
    · omega
    · omega
  · intro _; exact evalE_valid _ _
theorem foldR_eq {tabs : List Tb} {k o : Int} {n s : ByteArray} {v : Vl} {sc p : Int} {l : List Xp} (hl : ∀ y ∈ l, constX y = true → y.val.valid) : foldR tabs k o n s v sc p l = foldN tabs k o n s v sc p l := by
  rcases foldN_ways tabs k o n s v sc p l with ⟨h1, e⟩ | ⟨h1, h2, h3, h4, h5, h6, e⟩ | ⟨h1, h2, e⟩ | ⟨h1, h2, h3, h4, e⟩ <;> rw [e] <;> unfold foldR
  · rw [if_pos (fun h => h1 h.symm)]
  · rw [if_neg (by omega), if_neg (by rw [h6]; simp), if_pos ⟨h2, h3, h5⟩]
  · rw [if_neg (by omega)]
    by_cases hi : k = 6 ∧ constX (l.getD 0 xp0) = true ∧ (l.getD 0 xp0).val.kind = 2
    · have hm := getD_mem3 (len3 h1 hi.1)
      rcases h2 with h2 | h2 | h2
      · have : foldN tabs k o n s v sc p l = if (l.getD 0 xp0).val.flag then l.getD 1 xp0 else l.getD 2 xp0 := by
          unfold foldN
          rw [if_neg (by omega), if_pos ⟨hi.1, hi.2.1, hl _ hm.1 hi.2.1, hi.2.2, h2⟩]
        rw [if_neg (by rw [h2]; simp), if_pos hi, ← this, e]
      · omega
      · omega
    · rw [if_neg (by rcases h2 with h2 | h2 | h2 <;> simp [h2]), if_neg hi]
  · rw [if_neg (by omega), if_pos ⟨h2, h3, h4⟩]
theorem evalE_c0 (e : EnvS) {w : Vl} (h : w.valid) : evalE e (c0 w) = w := by
  rw [evalE_eq]
  show nodeV e 1 0 _ _ w 0 0 [] = w
  unfold nodeV
  rw [if_neg (by rw [args_10]; simp), if_pos rfl]
  exact if_pos h
theorem const_eq {x : Xp} (h : constX x = true) (e : EnvS) : evalE e x = mayV x.val := by
  obtain ⟨k, o, n, s, v, sc, p, l⟩ := x
  obtain ⟨rfl, rfl⟩ := constX_mk h
  rw [evalE_eq]
  show nodeV e 1 o n s v sc p [] = mayV v
  unfold nodeV
  rw [if_neg (by rw [args_10]; simp), if_pos rfl]
theorem nodeV_env {e e' : EnvS} {k o : Int} {n s : ByteArray} {v : Vl} {sc p : Int} {l : List Vl} (h2 : k ≠ 2) (h10 : k ≠ 10) (ht : e.tabs = e'.tabs) : nodeV e k o n s v sc p l = nodeV e' k o n s v sc p l := by
  unfold nodeV
  rw [ht]
  by_cases h0 : (l.length : Int) ≠ argsN k
  · rw [if_pos h0, if_pos h0]
  rw [if_neg h0, if_neg h0, if_neg h2, if_neg h2]
  have hk : k = 1 ∨ k = 3 ∨ k = 4 ∨ k = 5 ∨ k = 6 ∨ k = 7 ∨ k = 8 ∨ k = 9 := by
    unfold argsN at h0
    repeat' split at h0
    all_goals omega
  rcases hk with rfl | rfl | rfl | rfl | rfl | rfl | rfl | rfl <;> simp
/-- FOLDING CHANGES NOTHING. -/
theorem evalE_fold (e : EnvS) (x : Xp) : evalE e (foldE e.tabs x) = evalE e x := by
  refine Xp.ind (Q := fun x => evalE e (foldE e.tabs x) = evalE e x) ?_ x
  clear x
  intro x ih
  obtain ⟨k, o, n, s, v, sc, p, l⟩ := x
  have hm : (l.map (foldE e.tabs)).map (evalE e) = l.map (evalE e) := by
    rw [List.map_map]
    exact List.map_congr_left fun y hy => ih y hy
  rw [foldE_mk, evalE_eq e (.mk k o n s v sc p l)]
  show _ = nodeV e k o n s v sc p (l.map (evalE e))
  rw [← hm]
  generalize l.map (foldE e.tabs) = m
  have hmk : evalE e (.mk k o n s v sc p m) = nodeV e k o n s v sc p (m.map (evalE e)) := by rw [evalE_eq]; rfl
  rcases foldN_ways e.tabs k o n s v sc p m with ⟨h1, e1⟩ | ⟨h1, h2, h3, h4, h5, h6, e1⟩ | ⟨h1, h2, e1⟩ | ⟨h1, h2, h3, h4, e1⟩ <;> rw [e1]
  · exact hmk
  · subst h2
    match m, len3 h1 rfl, h3, h4, h5 with
    | [a, b, c], _, h3, h4, h5 =>
      have h3 : constX a = true := h3
      have h4 : a.val.valid := h4
      have h5 : a.val.kind = 2 := h5
      have ea : evalE e a = a.val := by rw [const_eq h3]; exact if_pos h4
      show _ = nodeV e 6 o n s v sc p [evalE e a, evalE e b, evalE e c]
      have en : nodeV e 6 o n s v sc p [evalE e a, evalE e b, evalE e c] = ifV (evalE e a) (evalE e b) (evalE e c) := by
        unfold nodeV
        rw [if_neg (by simp [argsN])]
        simp
      rw [en, ea]
      unfold ifV
      have e4 : (askV a.val).2 = true := by rw [askV_ok h4 (by omega) (by omega)]
      have e5 : (ofV' a.val 2).2 = true := by
        unfold ofV'
        rw [if_pos e4, if_pos h5]
      rw [if_pos e5]
      show evalE e (if a.val.flag = true then b else c) = _
      split
      · exact (if_pos (evalE_valid e b)).symm
      · exact (if_pos (evalE_valid e c)).symm
  · exact hmk
  · rw [evalE_c0 e (evalE_valid _ _), evalE_eq]
    show nodeV (env0 e.tabs) k o n s v sc p (m.map (evalE (env0 e.tabs))) = _
    have : m.map (evalE (env0 e.tabs)) = m.map (evalE e) := List.map_congr_left fun y hy => by
      rw [const_eq (List.all_eq_true.1 h2 y hy), const_eq (List.all_eq_true.1 h2 y hy)]
    rw [this]
    exact nodeV_env h3 h4 rfl
/-- WHAT WAS FOLDED IS FOLDED. -/
theorem foldE_idem (tabs : List Tb) (x : Xp) : foldE tabs (foldE tabs x) = foldE tabs x := by
  refine Xp.ind (Q := fun x => foldE tabs (foldE tabs x) = foldE tabs x) ?_ x
  clear x
  intro x ih
  obtain ⟨k, o, n, s, v, sc, p, l⟩ := x
  have hm : ∀ y ∈ l.map (foldE tabs), foldE tabs y = y := fun y hy => by
    obtain ⟨z, hz, rfl⟩ := List.mem_map.1 hy
    exact ih z hz
  rw [foldE_mk]
  generalize l.map (foldE tabs) = m at *
  have hm' : m.map (foldE tabs) = m := by
    have : m.map (foldE tabs) = m.map id := List.map_congr_left hm
    rw [this, List.map_id]
  have hmk : foldE tabs (.mk k o n s v sc p m) = foldN tabs k o n s v sc p m := by rw [foldE_mk, hm']
  rcases foldN_ways tabs k o n s v sc p m with ⟨h1, e1⟩ | ⟨h1, h2, h3, h4, h5, h6, e1⟩ | ⟨h1, h2, e1⟩ | ⟨h1, h2, h3, h4, e1⟩
  · rw [e1, hmk, e1]
  · rw [e1]
    obtain ⟨m0, m1, m2⟩ := getD_mem3 (len3 h1 h2)
    split
    · exact hm _ m1
    · exact hm _ m2
  · rw [e1, hmk, e1]
  · rw [e1]
    have hv := evalE_valid (env0 tabs) (.mk k o n s v sc p m)
    generalize evalE (env0 tabs) (.mk k o n s v sc p m) = w at *
    unfold c0
    rw [foldE_mk]
    simp only [List.map_nil]
    unfold foldN
    rw [if_neg (by rw [args_10]; simp), if_neg (by omega), if_neg (by simp)]
    congr 1
    exact evalE_c0 _ hv
/-! ### how many nodes -/
mutual
def cntX : Xp → Nat
  | .mk _ _ _ _ _ _ _ l => 1 + cntL l
def cntL : List Xp → Nat
  | [] => 0
  | x :: r => cntX x + cntL r
end
mutual
def depX : Xp → Nat
  | .mk _ _ _ _ _ _ _ l => 1 + depL l
def depL : List Xp → Nat
  | [] => 0
  | x :: r => max (depX x) (depL r)
end
theorem cntX_mk (k o : Int) (n s : ByteArray) (v : Vl) (sc p : Int) (l : List Xp) : cntX (.mk k o n s v sc p l) = 1 + cntL l := by rw [cntX]
theorem depX_mk (k o : Int) (n s : ByteArray) (v : Vl) (sc p : Int) (l : List Xp) : depX (.mk k o n s v sc p l) = 1 + depL l := by rw [depX]
theorem cntL_cons (x : Xp) (r : List Xp) : cntL (x :: r) = cntX x + cntL r := by rw [cntL]
theorem depL_cons (x : Xp) (r : List Xp) : depL (x :: r) = max (depX x) (depL r) := by rw [depL]
theorem cntL_nil : cntL [] = 0 := by rw [cntL]
theorem depL_nil : depL [] = 0 := by rw [depL]
theorem cntX_pos (x : Xp) : 1 ≤ cntX x := by cases x; rw [cntX_mk]; omega
theorem depX_pos (x : Xp) : 1 ≤ depX x := by cases x; rw [depX_mk]; omega
theorem mem_cnt {y : Xp} : ∀ {l : List Xp}, y ∈ l → cntX y ≤ cntL l ∧ depX y ≤ depL l
  | [], h => by cases h
  | x :: r, h => by
    rw [cntL_cons, depL_cons]
    rcases List.mem_cons.1 h with rfl | h
    · omega
    · have := mem_cnt h; omega
theorem wrapI_id {x : Int} (h0 : 0 ≤ x) (h1 : x < 9223372036854775808) : wrapI x = x := wi64_id (by omega) h1
/-- sizes do not turn round where there are few nodes -/
theorem sizeE_cnt : ∀ (d : Nat) (x : Xp), cntX x ≤ 1048576 → ((depX x ≤ d ∧ sizeE d x = cntX x) ∨ (d < depX x ∧ 10000 ≤ sizeE d x ∧ sizeE d x ≤ 10000 * cntX x)) := by
  intro d
  induction d with
  | zero =>
    intro x hx
    have := depX_pos x
    have := cntX_pos x
    refine .inr ⟨by omega, ?_, ?_⟩ <;> unfold sizeE <;> omega
  | succ d ih =>
    intro x hx
    obtain ⟨k, o, n, s, v, sc, p, l⟩ := x
    rw [cntX_mk] at hx ⊢
    rw [depX_mk]
    have e0 : sizeE (d + 1) (.mk k o n s v sc p l) = sizeL d 1 l := by unfold sizeE; rfl
    rw [e0]
    have key : ∀ (l : List Xp) (a b : Nat), cntL l + b ≤ 1048576 → a ≤ 10000 * b → ((depL l ≤ d ∧ sizeL d a l = a + cntL l) ∨ (d < depL l ∧ a + 10000 ≤ sizeL d a l ∧ sizeL d a l ≤ a + 10000 * cntL l)) := by
      intro l
      induction l with
      | nil =>
        intro a b _ _
        rw [depL_nil, cntL_nil]
        refine .inl ⟨by omega, ?_⟩
        unfold sizeL; omega
      | cons y r ihl =>
        intro a b hb ha
        rw [cntL_cons] at hb ⊢
        rw [depL_cons]
        have es : sizeL d (a : Int) (y :: r) = sizeL d (wrapI (a + sizeE d y)) r := by rw [sizeL]
        have hp := cntX_pos y
        rcases ih y (by omega) with ⟨h1, h2⟩ | ⟨h1, h2, h3⟩
        · rw [es, h2, wrapI_id (by omega) (by omega)]
          have := ihl (a + cntX y) (b + cntX y) (by omega) (by omega)
          rw [Int.natCast_add] at this
          omega
        · obtain ⟨z, hz⟩ := Int.eq_ofNat_of_zero_le (show 0 ≤ sizeE d y by omega)
          rw [es, hz, wrapI_id (by omega) (by omega)]
          rw [hz] at h2 h3
          have := ihl (a + z) (b + cntX y) (by omega) (by omega)
          rw [Int.natCast_add] at this
          omega
    have := key l 1 1 (by omega) (by omega)
    simp only [Int.natCast_one] at this
    omega
theorem cnt_map {f : Xp → Xp} : ∀ {l : List Xp}, (∀ y ∈ l, cntX (f y) ≤ cntX y ∧ depX (f y) ≤ depX y) → cntL (l.map f) ≤ cntL l ∧ depL (l.map f) ≤ depL l
  | [], _ => ⟨Nat.le_refl _, Nat.le_refl _⟩
  | x :: r, h => by
    have h1 := h x (List.mem_cons_self ..)
    have h2 := cnt_map (l := r) fun y hy => h y (List.mem_cons_of_mem _ hy)
    rw [List.map_cons, cntL_cons, cntL_cons, depL_cons, depL_cons]
    omega
/-- a folded expression has no more nodes -/
theorem fold_cnt (tabs : List Tb) (x : Xp) : cntX (foldE tabs x) ≤ cntX x ∧ depX (foldE tabs x) ≤ depX x := by
  refine Xp.ind (Q := fun x => cntX (foldE tabs x) ≤ cntX x ∧ depX (foldE tabs x) ≤ depX x) ?_ x
  clear x
  intro x ih
  obtain ⟨k, o, n, s, v, sc, p, l⟩ := x
  have hm := cnt_map (f := foldE tabs) (l := l) fun y hy => ih y hy
  rw [foldE_mk]
  rw [cntX_mk k, depX_mk k]
  generalize l.map (foldE tabs) = m at *
  rcases foldN_ways tabs k o n s v sc p m with ⟨h1, e1⟩ | ⟨h1, h2, h3, h4, h5, h6, e1⟩ | ⟨h1, h2, e1⟩ | ⟨h1, h2, h3, h4, e1⟩ <;> rw [e1]
  · rw [cntX_mk, depX_mk]; omega
  · obtain ⟨m0, m1, m2⟩ := getD_mem3 (len3 h1 h2)
    split
    · have := mem_cnt m1; omega
    · have := mem_cnt m2; omega
  · rw [cntX_mk, depX_mk]; omega
  · unfold c0; rw [cntX_mk, depX_mk, cntL_nil, depL_nil]; omega
theorem fold_fits (tabs : List Tb) (x : Xp) (h : cntX x ≤ 1048576) (hs : sizeE 60 x ≤ 2000) : sizeE 60 (foldE tabs x) ≤ 2000 := by
  have h1 := fold_cnt tabs x
  rcases sizeE_cnt 60 x h with ⟨h2, h3⟩ | ⟨h2, h3, _⟩
  · rcases sizeE_cnt 60 (foldE tabs x) (by omega) with ⟨h4, h5⟩ | ⟨h4, h5, _⟩
    · omega
    · omega
  · omega
end Go.AM

set_option linter.unusedVariables false
set_option linter.unusedSimpArgs false
set_option maxRecDepth 100000
namespace Go.AM
/-- every list of arguments has room -/
inductive Xp.Lens : Xp → Prop
  | mk (x : Xp) (h : x.args.length * 176 ≤ 140737488355328) (ha : ∀ y, y ∈ x.args → Xp.Lens y) : Xp.Lens x
theorem Xp.Lens.one {x : Xp} (h : x.Lens) : x.args.length * 176 ≤ 140737488355328 := by cases h; assumption
theorem Xp.Lens.arg {x y : Xp} (h : x.Lens) (hy : y ∈ x.args) : y.Lens := by cases h with | mk _ _ ha => exact ha y hy
theorem cntL_len : ∀ l : List Xp, l.length ≤ cntL l
  | [] => Nat.zero_le _
  | x :: r => by have := cntX_pos x; have := cntL_len r; rw [cntL_cons, List.length_cons]; omega
theorem lens_of_cnt (x : Xp) : cntX x ≤ 1048576 → x.Lens := by
  refine Xp.ind (Q := fun x => cntX x ≤ 1048576 → x.Lens) ?_ x
  clear x
  intro x ih h
  refine .mk x ?_ fun y hy => ih y hy ?_
  · cases x; rw [cntX_mk] at h
    rename_i l
    have := cntL_len l
    show l.length * 176 ≤ _
    omega
  · cases x; rw [cntX_mk] at h
    rename_i l
    have := (mem_cnt (show y ∈ l from hy)).1
    omega
/-- a row that grew by one at a time -/
def growG (m : List Xp) : Nat → Nat → List Val
  | 0, _ => []
  | 1, j => (pieces 17 1 (cE (m.getD 0 xp0))).getD j []
  | i + 2, j => if j < i + 1 then growG m (i + 1) j else (fun q => (pieces 17 1 (cE (m.getD (i + 1) xp0))).getD q []) (j - (i + 1))
theorem growG_at (m : List Xp) : ∀ (i j : Nat), j < i → growG m i j = cE (m.getD j xp0)
  | 0, _, h => absurd h (by omega)
  | 1, j, h => by
    obtain rfl : j = 0 := by omega
    rfl
  | i + 2, j, h => by
    show (if j < i + 1 then growG m (i + 1) j else _) = _
    by_cases hj : j < i + 1
    · rw [if_pos hj]; exact growG_at m (i + 1) j hj
    · obtain rfl : j = i + 1 := by omega
      rw [if_neg hj, Nat.sub_self]; rfl
theorem rows_at (m : List Xp) (j : Nat) (h : j < m.length) : Xp.rows m j = cE (m.getD j xp0) := by
  rw [(Xp.rows_ext m).2 j h, List.getD_eq_getElem?_getD, List.getElem?_eq_getElem h]; rfl
theorem Ret.leR {P : Program} {f : FuncId} {as' : List Val} {v v' : Val} (hr : Ret P f as' [] v []) (h : v.le v') : Ret P f as' [] v' [] :=
  ⟨hr.1, fun ι φ w cargs h1 h2 h3 => (hr.2 ι φ w cargs h1 h2 h3).mono fun e w' ⟨cv, ι', φ', k1, k2, k3, k4, k5⟩ => ⟨cv, ι', φ', k1, k2, k3, h _ _ _ k4, k5⟩⟩
theorem le_ext' {sz n : Nat} {g g' : Nat → List Val} {c : List Val} (h : ∀ i, i < n → g i = g' i) : ∀ {c : List Val}, LeL (c ++ [.ext sz n g]) (c ++ [.ext sz n g'])
  | [] => .cons (le_ext h) .nil
  | v :: c => .cons (.refl v) (le_ext' (c := c) h)
theorem le_nils' {sz : Nat} {g : Nat → List Val} : ∀ {c : List Val}, LeL (c ++ [.nils]) (c ++ [.ext sz 0 g])
  | [] => .cons (fun ι φ u hr => by
      cases hr with
      | c hc => cases hc; exact .c (.extNil sz g)) .nil
  | v :: c => .cons (.refl v) le_nils'
section
variable {P : Program} {f : FuncId} {as' : List Val} {k o : Int} {n s : ByteArray} {v : Vl} {sc p : Int}
abbrev hdX (k o : Int) (n s : ByteArray) (v : Vl) (sc p : Int) : List Val := [.int .i64 k, .int .i64 o, .str n, .str s, .int .i64 v.kind, .bool v.num.neg, .int .u64 (l0 v.num.n), .int .u64 (l1 v.num.n), .int .u64 (l2 v.num.n), .int .u64 (l3 v.num.n), .int .i64 v.num.scale,
    .bool v.flag, .str v.text, .int .i64 v.err, .int .i64 sc, .int .i64 p]
theorem closed_hd (m : List Xp) (sz : Nat) (g : Nat → List Val) : closedR (.agg (hdX k o n s v sc p ++ [.ext sz m.length g])) = true := rfl
/-- an expression handed back with a row of its own -/
theorem lend_x {e : TypeId} (m : List Xp) (hr : Ret P f as' [] (.agg (hdX k o n s v sc p ++ [.row 0 m.length])) [.row e 17 m.length (growG m m.length) m.length]) : Ret P f as' [] (eE (.mk k o n s v sc p m)) [] := by
  have h1 : Ret P f as' [] (.agg (hdX k o n s v sc p ++ [.ext 17 m.length (growG m m.length)])) [] := by
    refine hr.lend ?_ (closed_hd m 17 _)
    exact ⟨rfl, Nat.le_refl _, Nat.le_refl _⟩
  refine h1.leR (le_agg (le_ext' (c := []) fun i hi => ?_))
  exact (growG_at m _ i hi).trans (rows_at m i hi).symm
theorem nil_x (hr : Ret P f as' [] (.agg (hdX k o n s v sc p ++ [.nils])) []) : Ret P f as' [] (eE (.mk k o n s v sc p [])) [] := hr.leR (le_agg le_nils')
/-- an expression handed in with another make of its arguments -/
theorem Ret.ex {rest : List Val} {m : List Xp} {g : Nat → List Val} {w : Val} (hr : Ret P f (eE (.mk k o n s v sc p m) :: rest) [] w []) (hg : ∀ i, i < m.length → g i = Xp.rows m i) : Ret P f (.agg (hdX k o n s v sc p ++ [.ext 17 m.length g]) :: rest) [] w [] :=
  hr.le (.cons (le_agg (le_ext' (c := []) hg)) (.refl _))
theorem Ret.exn {rest : List Val} {w : Val} (hr : Ret P f (eE (.mk k o n s v sc p []) :: rest) [] w []) : Ret P f (.agg (hdX k o n s v sc p ++ [.nils]) :: rest) [] w [] :=
  hr.le (.cons (le_agg le_nils') (.refl _))
end
end Go.AM

set_option linter.unusedVariables false
set_option linter.unusedSimpArgs false
set_option maxRecDepth 100000
namespace Go.AM
theorem valid_wf {v : Vl} (h : v.valid) : v.wf := by
  have hm : maxLen = 9223372036854775807 := by decide
  rcases h with ⟨_, e⟩ | ⟨_, e, h1, h2, _⟩ | ⟨_, e⟩ | ⟨_, e, h1⟩ | ⟨_, e, h1⟩
  · rw [e]; exact ⟨⟨by decide, by decide⟩, ⟨by decide, by decide⟩, by decide, ⟨by decide, by decide⟩⟩
  · rw [e]; exact ⟨⟨by show _ ≤ (1 : Int); omega, by show (1 : Int) ≤ _; omega⟩, ⟨by show _ ≤ v.num.scale; omega, by show v.num.scale ≤ _; omega⟩, by show (ByteArray.mk #[]).size ≤ _; decide, ⟨by show _ ≤ (0 : Int); omega, by show (0 : Int) ≤ _; omega⟩⟩
  · rw [e]; exact ⟨⟨by show _ ≤ (2 : Int); omega, by show (2 : Int) ≤ _; omega⟩, ⟨by show _ ≤ (0 : Int); omega, by show (0 : Int) ≤ _; omega⟩, by show (ByteArray.mk #[]).size ≤ _; decide, ⟨by show _ ≤ (0 : Int); omega, by show (0 : Int) ≤ _; omega⟩⟩
  · rw [e]; exact ⟨⟨by show _ ≤ (3 : Int); omega, by show (3 : Int) ≤ _; omega⟩, ⟨by show _ ≤ (0 : Int); omega, by show (0 : Int) ≤ _; omega⟩, by show v.text.size ≤ _; omega, ⟨by show _ ≤ (0 : Int); omega, by show (0 : Int) ≤ _; omega⟩⟩
  · rw [e]; exact ⟨⟨by show _ ≤ (4 : Int); omega, by show (4 : Int) ≤ _; omega⟩, ⟨by show _ ≤ (0 : Int); omega, by show (0 : Int) ≤ _; omega⟩, by show (ByteArray.mk #[]).size ≤ _; decide, ⟨by show _ ≤ v.err; omega, by show v.err ≤ _; omega⟩⟩
theorem fold_keeps (tabs : List Tb) (x : Xp) : x.Wf → x.Lens → (foldE tabs x).Wf ∧ (foldE tabs x).Lens := by
  refine Xp.ind (Q := fun x => x.Wf → x.Lens → (foldE tabs x).Wf ∧ (foldE tabs x).Lens) ?_ x
  clear x
  intro x ih hx hL
  obtain ⟨k, o, n, s, v, sc, p, l⟩ := x
  have hw := hx.one
  have hm : ∀ y ∈ l.map (foldE tabs), y.Wf ∧ y.Lens := fun y hy => by
    obtain ⟨z, hz, rfl⟩ := List.mem_map.1 hy
    exact ih z hz (hx.arg hz) (hL.arg hz)
  have hml : (l.map (foldE tabs)).length = l.length := List.length_map ..
  rw [foldE_mk]
  generalize l.map (foldE tabs) = m at *
  have mk_ok : (Xp.mk k o n s v sc p m).Wf ∧ (Xp.mk k o n s v sc p m).Lens :=
    ⟨.mk _ ⟨hw.kind, hw.op, hw.name, hw.sect, hw.val, hw.scale, hw.pol, by have := hw.len; show m.length ≤ _; rw [hml]; exact this⟩ fun y hy => (hm y hy).1, .mk _ (by have := hL.one; show m.length * 176 ≤ _; rw [hml]; exact this) fun y hy => (hm y hy).2⟩
  rcases foldN_ways tabs k o n s v sc p m with ⟨h1, e1⟩ | ⟨h1, h2, h3, h4, h5, h6, e1⟩ | ⟨h1, h2, e1⟩ | ⟨h1, h2, h3, h4, e1⟩ <;> rw [e1]
  · exact mk_ok
  · obtain ⟨m0, m1, m2⟩ := getD_mem3 (len3 h1 h2)
    split
    · exact hm _ m1
    · exact hm _ m2
  · exact mk_ok
  · have hv := valid_wf (evalE_valid (env0 tabs) (.mk k o n s v sc p m))
    generalize evalE (env0 tabs) (.mk k o n s v sc p m) = w at *
    have hmx : maxLen = 9223372036854775807 := by decide
    exact ⟨.mk _ ⟨⟨by show _ ≤ (1 : Int); omega, by show (1 : Int) ≤ _; omega⟩, ⟨by show _ ≤ (0 : Int); omega, by show (0 : Int) ≤ _; omega⟩, by show (0 : Nat) ≤ _; omega, by show (0 : Nat) ≤ _; omega, hv, ⟨by show _ ≤ (0 : Int); omega, by show (0 : Int) ≤ _; omega⟩, ⟨by show _ ≤ (0 : Int); omega, by show (0 : Int) ≤ _; omega⟩, by show (0 : Nat) ≤ _; omega⟩ fun y hy => absurd (show y ∈ [] from hy) (by simp),
      .mk _ (by show 0 * 176 ≤ _; omega) fun y hy => absurd (show y ∈ [] from hy) (by simp)⟩
end Go.AM

