/- What an expression does not read counts for nothing. -/
import Derived.Test.YtlbocjcponegcaaGreatAmIw
set_option linter.unusedVariables false
set_option linter.unusedSimpArgs false
set_option maxRecDepth 100000
namespace Go.AM
section
variable {κ α : Type} [DecidableEq κ]
theorem aget_aput (k j : κ) (v : α) : ∀ l : List (κ × α), aget j (aput k v l) = if k = j then some v else aget j l
  | [] => rfl
  | p :: l => by
    unfold aput
    by_cases h : p.1 = k
    · rw [if_pos h]
      show (if k = j then some v else aget j l) = if k = j then some v else if p.1 = j then some p.2 else aget j l
      by_cases h2 : k = j
      · rw [if_pos h2, if_pos h2]
      · rw [if_neg h2, if_neg h2, if_neg (fun e => h2 (h.symm.trans e))]
    · rw [if_neg h]
      show (if p.1 = j then some p.2 else aget j (aput k v l)) = if k = j then some v else if p.1 = j then some p.2 else aget j l
      rw [aget_aput k j v l]
      by_cases h2 : k = j
      · rw [if_pos h2, if_neg (fun e => h (e.trans h2.symm)), if_pos h2]
      · rw [if_neg h2, if_neg h2]
/-- what is found of the keys -/
def ownP (src : List (κ × α)) (k : κ) (m : List (κ × α)) : List (κ × α) := match aget k src with
  | some v => aput k v m
  | none => m
def ownG (src : List (κ × α)) (ks : List κ) (m : List (κ × α)) : List (κ × α) := ks.foldl (fun m k => ownP src k m) m
theorem aget_own (src : List (κ × α)) : ∀ (ks : List κ) (m : List (κ × α)) (j : κ), (aget j m = none ∨ aget j m = aget j src) → (aget j (ownG src ks m) = aget j src ∨ (j ∉ ks ∧ aget j (ownG src ks m) = none)) ∧ (aget j m = aget j src → aget j (ownG src ks m) = aget j src)
  | [], m, j, h => by
    refine ⟨?_, fun h => h⟩
    rcases h with h | h
    · exact .inr ⟨by simp, h⟩
    · exact .inl h
  | k :: ks, m, j, h => by
    have hp : aget j (ownP src k m) = if k = j ∧ (aget k src).isSome = true then aget j src else aget j m := by
      unfold ownP
      cases hk : aget k src with
      | none => simp
      | some v =>
        show aget j (aput k v m) = _
        rw [aget_aput]
        by_cases e : k = j
        · subst e; simp [hk]
        · simp [e]
    have h2 : aget j (ownP src k m) = none ∨ aget j (ownP src k m) = aget j src := by
      rw [hp]
      split
      · exact .inr rfl
      · exact h
    obtain ⟨i1, i2⟩ := aget_own src ks (ownP src k m) j h2
    show (aget j (ownG src ks (ownP src k m)) = aget j src ∨ (j ∉ k :: ks ∧ aget j (ownG src ks (ownP src k m)) = none)) ∧ (aget j m = aget j src → aget j (ownG src ks (ownP src k m)) = aget j src)
    refine ⟨?_, fun h3 => i2 ?_⟩
    · rcases i1 with i1 | ⟨i1, i3⟩
      · exact .inl i1
      · by_cases e : k = j
        · subst e
          cases hk : aget k src with
          | none => exact .inl i3
          | some v =>
            have : aget k (ownP src k m) = aget k src := by rw [hp, if_pos ⟨rfl, by rw [hk]; rfl⟩]
            rw [i2 this, hk] at i3
            cases i3
        · exact .inr ⟨fun h => by
            rcases List.mem_cons.1 h with h | h
            · exact e h.symm
            · exact i1 h, i3⟩
    · rw [hp]
      split
      · rfl
      · exact h3
theorem aget_ownG (src : List (κ × α)) (ks : List κ) (j : κ) (h : j ∈ ks) : aget j (ownG src ks []) = aget j src := by
  rcases (aget_own src ks [] j (.inl rfl)).1 with h1 | ⟨h1, _⟩
  · exact h1
  · exact absurd h h1
theorem aget_ownG' (src : List (κ × α)) (ks : List κ) (j : κ) : aget j (ownG src ks []) = aget j src ∨ aget j (ownG src ks []) = none := by
  rcases (aget_own src ks [] j (.inl rfl)).1 with h1 | ⟨_, h1⟩
  · exact .inl h1
  · exact .inr h1
end
/-! ### what is gathered is there -/
section
variable {κ : Type} {f : Xp → List κ → List κ} (hm : ∀ y a z, z ∈ a → z ∈ f y a)
include hm
theorem walk_sub (x : Xp) : ∀ a z, z ∈ a → z ∈ walkF f x a := by
  refine Xp.ind (Q := fun x => ∀ a z, z ∈ a → z ∈ walkF f x a) ?_ x
  clear x
  intro x ih a z hz
  obtain ⟨k, o, n, s, v, sc, p, l⟩ := x
  have hl : ∀ (m : List Xp), (∀ y ∈ m, y ∈ l) → ∀ a, z ∈ a → z ∈ walkL f m a := by
    intro m
    induction m with
    | nil => intro _ a h; rw [walkL_nil]; exact h
    | cons y r ihr =>
      intro hm' a h
      rw [walkL_cons]
      exact ihr (fun w hw => hm' w (List.mem_cons_of_mem _ hw)) _ (ih y (hm' y (List.mem_cons_self ..)) a z h)
  rw [walkF_mk]
  exact hl l (fun y hy => hy) _ (hm _ _ _ hz)
theorem walkL_sub : ∀ (l : List Xp) (a : List κ) (z : κ), z ∈ a → z ∈ walkL f l a
  | [], a, z, h => by rw [walkL_nil]; exact h
  | y :: r, a, z, h => by rw [walkL_cons]; exact walkL_sub r _ z (walk_sub hm y a z h)
end
theorem nameR_sub (y : Xp) (a : List ByteArray) (z : ByteArray) (h : z ∈ a) : z ∈ nameR y a := by
  unfold nameR
  split
  · exact (putG_mem _ _).2 (.inr h)
  · exact h
theorem colR_sub (y : Xp) (a : List CK) (z : CK) (h : z ∈ a) : z ∈ colR y a := by
  unfold colR
  split
  · exact (putG_mem _ _).2 (.inr h)
  · exact h
/-- THE LAW: environments that say the same of what is read -/
theorem eval_only {e e' : EnvS} (ht : e'.tabs = e.tabs) (x : Xp) : ∀ (a : List ByteArray) (b : List CK), (∀ z ∈ walkF nameR x a, e'.name z = e.name z) → (∀ z ∈ walkF colR x b, e'.col z = e.col z) → evalE e' x = evalE e x := by
  refine Xp.ind (Q := fun x => ∀ (a : List ByteArray) (b : List CK), (∀ z ∈ walkF nameR x a, e'.name z = e.name z) → (∀ z ∈ walkF colR x b, e'.col z = e.col z) → evalE e' x = evalE e x) ?_ x
  clear x
  intro x ih a b hn hc
  rw [evalE_eq, evalE_eq]
  obtain ⟨k, o, n, s, v, sc, p, l⟩ := x
  rw [walkF_mk] at hn hc
  have hl : ∀ (m : List Xp), (∀ y ∈ m, y ∈ l) → ∀ a b, (∀ z ∈ walkL nameR m a, e'.name z = e.name z) → (∀ z ∈ walkL colR m b, e'.col z = e.col z) → m.map (evalE e') = m.map (evalE e) := by
    intro m
    induction m with
    | nil => intros; rfl
    | cons y r ihr =>
      intro hm a b h1 h2
      rw [walkL_cons] at h1 h2
      rw [List.map_cons, List.map_cons, ih y (hm y (List.mem_cons_self ..)) a b (fun z hz => h1 z (walkL_sub nameR_sub r _ z hz)) (fun z hz => h2 z (walkL_sub colR_sub r _ z hz)), ihr (fun z hz => hm z (List.mem_cons_of_mem _ hz)) _ _ h1 h2]
  have harg := hl l (fun y hy => hy) _ _ hn hc
  show nodeV e' k o n s v sc p (l.map (evalE e')) = nodeV e k o n s v sc p (l.map (evalE e))
  rw [harg]
  have hN : k = 2 → e'.name n = e.name n := fun hk => hn n (walkL_sub nameR_sub l _ n (by unfold nameR; rw [if_pos (show (Xp.mk k o n s v sc p l).kind = 2 from hk)]; exact (putG_mem _ _).2 (.inl rfl)))
  have hC : k = 10 → e'.col (colK o s n) = e.col (colK o s n) := fun hk => hc _ (walkL_sub colR_sub l _ _ (by unfold colR; rw [if_pos (show (Xp.mk k o n s v sc p l).kind = 10 from hk)]; exact (putG_mem _ _).2 (.inl rfl)))
  generalize l.map (evalE e) = w
  by_cases hb : (w.length : Int) ≠ argsN k
  · rw [nodeV_bad hb, nodeV_bad hb]
  · unfold nodeV
    rw [if_neg hb, if_neg hb, ht]
    by_cases h1 : k = 1
    · rw [if_pos h1, if_pos h1]
    · rw [if_neg h1, if_neg h1]
      by_cases h2 : k = 2
      · rw [if_pos h2, if_pos h2, hN h2]
      · rw [if_neg h2, if_neg h2]
        by_cases h10 : k = 10
        · rw [hC h10]
        · have hk : argsN k ≠ 0 := fun h => by rcases args0 h with h | h | h <;> omega
          have hk2 : k = 3 ∨ k = 4 ∨ k = 7 ∨ k = 8 ∨ k = 9 ∨ k = 5 ∨ k = 6 := by
            by_cases h3 : argsN k = 1
            · rcases args1 h3 with h | h | h | h | h <;> omega
            · by_cases h4 : argsN k = 2
              · have := args2 h4; omega
              · by_cases h5 : argsN k = 3
                · have := args3 h5; omega
                · exfalso
                  have h6 := argsN_le k
                  have h7 : (0 : Int) ≤ argsN k := by have : (w.length : Int) = argsN k := by omega
                                                      omega
                  omega
          rcases hk2 with h | h | h | h | h | h | h <;> subst h <;> rfl
end Go.AM

