/- Ranks: what items read, as it is: numbers, sets of numbers, sorted lists. -/
import Derived.Test.YtafiechoplbieaaAmHy
import Derived.Test.YtafiechoplbieaaAmHn
import Derived.Test.YtafiechoplbieaaAmHr
set_option linter.unusedVariables false
set_option linter.unusedSimpArgs false
set_option maxRecDepth 100000
namespace Go.AM
/-- put to a rising list, once -/
def putO (n : Int) : List Int → List Int
  | [] => [n]
  | x :: r => if x < n then x :: putO n r else if x = n then x :: r else n :: x :: r
/-! ### sets as lists of keys -/
def keysZ {α : Type} (l : List (Int × α)) : List Int := l.map (·.1)
theorem aget_none {α : Type} {k : Int} : ∀ {l : List (Int × α)}, aget k l = none ↔ k ∉ keysZ l
  | [] => by simp [aget, keysZ]
  | p :: l => by
    unfold aget
    by_cases h : p.1 = k
    · rw [if_pos h]; simp [keysZ, h]
    · rw [if_neg h, aget_none]
      simp [keysZ]
      intro _ h'; exact absurd h'.symm h
theorem aget_some {α : Type} {k : Int} {l : List (Int × α)} : (aget k l).isSome = true ↔ k ∈ keysZ l := by
  cases h : aget k l with
  | none => simpa using aget_none.1 h
  | some v =>
    have := aget_mem h
    simp only [Option.isSome_some, true_iff]
    exact List.mem_map.2 ⟨_, this, rfl⟩
/-! ### numbers -/
/-! ### what is read -/
def putK' (o : Option Int) (l : List Int) : List Int := match o with
  | none => l
  | some k => putO k l
end Go.AM

set_option linter.unusedVariables false
set_option linter.unusedSimpArgs false
set_option maxRecDepth 100000
namespace Go.AM
abbrev RkM := List (Int × Int)
def hasAll (es : RkM) (r : List Int) : Bool := r.all fun j => (aget j es).isSome
def mostOf (es : RkM) : Int → List Int → Int
  | m, [] => m
  | m, j :: r => mostOf es (pickM true m ((aget j es).getD 0)) r
def rkStep (k : Nat) (r : List Int) (es : RkM) : RkM := if (aget (k : Int) es).isSome = true then es else if hasAll es r = true then aput (k : Int) (mostOf es (-1) r + 1) es else es
theorem aput_new {α : Type} {k : Int} {v : α} : ∀ {l : List (Int × α)}, k ∉ keysZ l → aput k v l = l ++ [(k, v)]
  | [], _ => rfl
  | p :: l, h => by
    unfold aput
    have h1 : ¬ p.1 = k := fun e => h (by simp [keysZ, e])
    rw [if_neg h1, aput_new (fun hm => h (by simp only [keysZ, List.map_cons, List.mem_cons] at *; exact .inr hm))]
    rfl
theorem aget_app {α : Type} {j : Int} : ∀ {l m : List (Int × α)}, aget j (l ++ m) = match aget j l with | some v => some v | none => aget j m
  | [], m => rfl
  | p :: l, m => by
    show (if p.1 = j then some p.2 else aget j (l ++ m)) = match (if p.1 = j then some p.2 else aget j l) with | some v => some v | none => aget j m
    by_cases h : p.1 = j
    · rw [if_pos h, if_pos h]
    · rw [if_neg h, if_neg h]; exact aget_app
theorem pickM_t (a b : Int) : (b > a → pickM true a b = b) ∧ (¬ b > a → pickM true a b = a) := ⟨fun h => if_pos h, fun h => if_neg h⟩
/-- what may be: keys below M, each once; a rank is less than how many there are -/
structure RkOk (M : Nat) (es : RkM) : Prop where
  nd : (keysZ es).Nodup
  lt : ∀ k ∈ keysZ es, 0 ≤ k ∧ k < (M : Int)
  val : ∀ k v, aget k es = some v → 0 ≤ v ∧ v < (es.length : Int)
theorem RkOk.nil (M : Nat) : RkOk M [] := ⟨by simp [keysZ], by simp [keysZ], fun k v h => by simp [aget] at h⟩
theorem nodup_lt {l : List Int} {M : Nat} (hn : l.Nodup) (h : ∀ k ∈ l, 0 ≤ k ∧ k < (M : Int)) : l.length ≤ M := by
  have : (l.map Int.toNat).Nodup := by
    refine List.nodup_iff_pairwise_ne.2 (List.pairwise_map.2 ((List.nodup_iff_pairwise_ne.1 hn).imp_of_mem fun {a b} ha hb hab e => hab ?_))
    have := h a ha; have := h b hb; omega
  have h2 := this.length_le_of_subset (l₂ := List.range M) fun x hx => by
    obtain ⟨k, hk, rfl⟩ := List.mem_map.1 hx
    have := h k hk
    rw [List.mem_range]; omega
  simpa using h2
theorem RkOk.len {M : Nat} {es : RkM} (h : RkOk M es) : es.length ≤ M := by
  have := nodup_lt h.nd h.lt
  simpa [keysZ] using this
theorem mostOf_lt {es : RkM} {n : Int} (h : ∀ k v, aget k es = some v → 0 ≤ v ∧ v < n) : ∀ {r : List Int} {m : Int}, hasAll es r = true → -1 ≤ m → m < n → -1 ≤ mostOf es m r ∧ mostOf es m r < n
  | [], m, _, h1, h2 => ⟨h1, h2⟩
  | j :: r, m, hr, h1, h2 => by
    simp only [hasAll, List.all_cons, Bool.and_eq_true] at hr
    cases hj : aget j es with
    | none => rw [hj] at hr; simp at hr
    | some v =>
      have hv := h j v hj
      have hp := pickM_t m v
      show -1 ≤ mostOf es (pickM true m ((aget j es).getD 0)) r ∧ mostOf es (pickM true m ((aget j es).getD 0)) r < n
      rw [hj, Option.getD_some]
      by_cases hb : v > m
      · rw [hp.1 hb]; exact mostOf_lt h hr.2 (by omega) (by omega)
      · rw [hp.2 hb]; exact mostOf_lt h hr.2 h1 h2
/-! ### whoever has a rank: greater than those of what it reads -/
/-! ### the document's: ranks in a list, -1 where there is none -/
def rkAt (r : List Int) (j : Int) : Int := r.getD j.toNat 0
def rankGo (r : List Int) : Int → List Int → Int
  | q, [] => q
  | q, j :: t => if q < 0 then q else rankGo r (if rkAt r j < 0 then -1 else pickM true q (rkAt r j + 1)) t
def stepR (k : Nat) (t : List Int) (r : List Int) : List Int := if 0 ≤ rankGo r 0 t ∧ rkAt r (k : Int) < 0 then r.set k (rankGo r 0 t) else r
/-- both say the same -/
structure Rl (M : Nat) (es : RkM) (r : List Int) : Prop where
  len : r.length = M
  at' : ∀ k : Nat, k < M → r.getD k 0 = (aget (k : Int) es).getD (-1)
theorem rankGo_neg (r : List Int) {q : Int} (h : q < 0) : ∀ t, rankGo r q t = q
  | [] => rfl
  | j :: t => by unfold rankGo; rw [if_pos h]
theorem Rl.go {M : Nat} {es : RkM} {r : List Int} (h : Rl M es r) (ho : RkOk M es) : ∀ {t : List Int} {q : Int}, (∀ j ∈ t, 0 ≤ j ∧ j < (M : Int)) → 0 ≤ q → rankGo r q t = if hasAll es t = true then mostOf es (q - 1) t + 1 else -1
  | [], q, _, h0 => by unfold rankGo mostOf; rw [show hasAll es [] = true from rfl, if_pos rfl]; omega
  | j :: t, q, ht, h0 => by
    have hj := ht j (List.mem_cons_self ..)
    have hr : rkAt r j = (aget j es).getD (-1) := by
      have := h.at' j.toNat (by omega)
      unfold rkAt
      rw [this, Int.toNat_of_nonneg hj.1]
    unfold rankGo
    rw [if_neg (by omega), hr]
    cases ha : aget j es with
    | none =>
      rw [Option.getD_none, if_pos (by omega), rankGo_neg r (by omega)]
      have : hasAll es (j :: t) = false := by simp [hasAll, ha]
      rw [this]; rfl
    | some v =>
      have hv := ho.val j v ha
      rw [Option.getD_some, if_neg (by omega)]
      have hq := pickM_t q (v + 1)
      have hp : 0 ≤ pickM true q (v + 1) := by
        by_cases hb : v + 1 > q
        · rw [hq.1 hb]; omega
        · rw [hq.2 hb]; omega
      rw [h.go ho (fun i hi => ht i (List.mem_cons_of_mem _ hi)) hp]
      have e1 : hasAll es (j :: t) = hasAll es t := by simp [hasAll, ha]
      have e2 : mostOf es (q - 1) (j :: t) = mostOf es (pickM true q (v + 1) - 1) t := by
        show mostOf es (pickM true (q - 1) ((aget j es).getD 0)) t = _
        rw [ha]
        congr 1
        rw [Option.getD_some]
        have hq2 := pickM_t (q - 1) v
        by_cases h5 : v > q - 1
        · rw [hq2.1 h5, hq.1 (by omega)]; omega
        · rw [hq2.2 h5, hq.2 (by omega)]
      rw [e1, e2]
theorem Rl.step {M k : Nat} {t : List Int} {es : RkM} {r : List Int} (h : Rl M es r) (ho : RkOk M es) (hk : k < M) (ht : ∀ j ∈ t, 0 ≤ j ∧ j < (M : Int)) : Rl M (rkStep k t es) (stepR k t r) ∧ (stepR k t r = r ↔ rkStep k t es = es) ∧ (0 ≤ rankGo r 0 t ∧ rkAt r (k : Int) < 0 ↔ (rkStep k t es).length ≠ es.length) := by
  have hg := h.go ho ht (q := 0) (by omega)
  have hm := fun h2 => mostOf_lt ho.val (r := t) (m := -1) h2 (by omega) (by omega)
  have hr : rkAt r (k : Int) = (aget (k : Int) es).getD (-1) := by
    have := h.at' k hk
    unfold rkAt
    rw [Int.toNat_natCast, this]
  unfold stepR rkStep
  rw [hg, hr]
  cases ha : aget (k : Int) es with
  | some v =>
    have hv := ho.val _ v ha
    rw [Option.getD_some]
    have hn : ¬ (0 ≤ (if hasAll es t = true then mostOf es (0 - 1) t + 1 else -1) ∧ v < 0) := by omega
    rw [if_neg hn, if_pos (by simp)]
    exact ⟨h, by simp, by simp; intro _; omega⟩
  | none =>
    rw [Option.getD_none, if_neg (by simp)]
    by_cases hh : hasAll es t = true
    · have := hm hh
      rw [if_pos hh, if_pos hh, if_pos ⟨by show 0 ≤ mostOf es (0 - 1) t + 1; have e : (0 : Int) - 1 = -1 := rfl; rw [e]; omega, by omega⟩]
      rw [aput_new (aget_none.1 ha)]
      refine ⟨⟨by simp [h.len], fun j hj => ?_⟩, ?_, ?_⟩
      · rw [List.getD_eq_getElem?_getD, List.getElem?_set, aget_app]
        by_cases e : k = j
        · subst e
          rw [if_pos rfl, if_pos (by rw [h.len]; exact hj), ha]
          simp [aget]
        · rw [if_neg e, ← List.getD_eq_getElem?_getD, h.at' j hj]
          cases aget (j : Int) es with
          | some v => rfl
          | none =>
            show _ = (if (k : Int) = (j : Int) then some (mostOf es (-1) t + 1) else none).getD (-1)
            rw [if_neg (by omega)]
      · constructor
        · intro e
          have h1 : (r.set k (mostOf es (0 - 1) t + 1)).getD k 0 = r.getD k 0 := by rw [e]
          rw [List.getD_eq_getElem?_getD, List.getElem?_set, if_pos rfl, if_pos (by rw [h.len]; exact hk), h.at' k hk, ha] at h1
          have h1 : mostOf es (0 - 1) t + 1 = -1 := h1
          have e : (0 : Int) - 1 = -1 := rfl
          rw [e] at h1
          omega
        · intro e
          have := congrArg List.length e
          simp at this
      · refine ⟨fun _ => by simp, fun _ => ⟨by show 0 ≤ mostOf es (0 - 1) t + 1; have e : (0 : Int) - 1 = -1 := rfl; rw [e]; omega, by omega⟩⟩
    · rw [if_neg hh, if_neg hh, if_neg (by omega)]
      exact ⟨h, by simp, by simp⟩
end Go.AM

set_option linter.unusedVariables false
set_option linter.unusedSimpArgs false
set_option maxRecDepth 100000
namespace Go.AM
/-! ### sorted by rank and number -/
/-! ### what both say -/
end Go.AM

