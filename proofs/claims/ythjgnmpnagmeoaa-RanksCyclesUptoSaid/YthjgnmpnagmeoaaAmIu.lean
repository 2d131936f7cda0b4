/- There is a cycle just if something cannot be reckoned. -/
import Derived.Test.YthjgnmpnagmeoaaAmIs
import Derived.Test.YthjgnmpnagmeoaaAmIt
set_option linter.unusedVariables false
set_option linter.unusedSimpArgs false
set_option maxRecDepth 100000
namespace Go.AM
theorem below_rank {g : List (List Int)} (hall : ∀ k : Nat, k < g.length → ∃ v, aget (k : Int) (rankE g) = some v) {n k : Int} (h : Below g n k) : ∃ v w, aget k (rankE g) = some v ∧ aget n (rankE g) = some w ∧ w < v := by
  induction h with
  | @one k hk hn =>
    obtain ⟨v, hv⟩ := hall k hk
    obtain ⟨w, hw, hlt⟩ := rankE_rises g k v hk hv n hn
    exact ⟨v, w, hv, hw, hlt⟩
  | @more k j hk hj _ ih =>
    obtain ⟨v, hv⟩ := hall k hk
    obtain ⟨w, hw, hlt⟩ := rankE_rises g k v hk hv j hj
    obtain ⟨v2, w2, h1, h2, h3⟩ := ih
    rw [hw] at h1
    injection h1 with h1
    exact ⟨v, w2, hv, h2, by omega⟩
theorem not_nodup {l : List Int} (h : ¬ l.Nodup) : ∃ (i j : Nat) (hj : j < l.length) (hij : i < j), l[i]'(by omega) = l[j] := by
  refine Classical.byContradiction fun hc => h ?_
  refine List.pairwise_iff_getElem.2 fun i j hi hj hij e => hc ⟨i, j, hj, hij, e⟩
theorem cycle_of {g : List (List Int)} (hin : ∀ r ∈ g, ∀ j ∈ r, 0 ≤ j ∧ j < (g.length : Int)) {k : Nat} (hk : k < g.length) (hn : aget (k : Int) (rankE g) = none) : ∃ n, 0 ≤ n ∧ n < (g.length : Int) ∧ Below g n n := by
  -- who cannot be reckoned reads one who cannot
  let U := {m : Nat // m < g.length ∧ aget (m : Int) (rankE g) = none}
  have nxt : ∀ m : U, ∃ m' : U, ((m'.1 : Nat) : Int) ∈ g[m.1]'m.2.1 := fun m => by
    have h := rankE_stuck m.2.1 m.2.2
    unfold hasAll at h
    rw [List.all_eq_false] at h
    obtain ⟨j, hj, hs⟩ := h
    have hr := hin _ (List.getElem_mem m.2.1) j hj
    refine ⟨⟨j.toNat, by omega, ?_⟩, ?_⟩
    · rw [Int.toNat_of_nonneg hr.1]
      cases ha : aget j (rankE g) with
      | none => rfl
      | some v => rw [ha] at hs; simp at hs
    · show ((j.toNat : Nat) : Int) ∈ _
      rw [Int.toNat_of_nonneg hr.1]; exact hj
  let f : U → U := fun m => Classical.choose (nxt m)
  have hf : ∀ m : U, (((f m).1 : Nat) : Int) ∈ g[m.1]'m.2.1 := fun m => Classical.choose_spec (nxt m)
  let p : Nat → U := fun i => Nat.rec ⟨k, hk, hn⟩ (fun _ m => f m) i
  have hp : ∀ i, p (i + 1) = f (p i) := fun i => rfl
  have hb : ∀ d i, Below g (((p (i + d + 1)).1 : Nat) : Int) (((p i).1 : Nat) : Int) := by
    intro d
    induction d with
    | zero => intro i; exact .one (p i).2.1 (by rw [Nat.add_zero, hp]; exact hf (p i))
    | succ d ih =>
      intro i
      have h1 := ih (i + 1)
      rw [show i + 1 + d + 1 = i + (d + 1) + 1 by omega] at h1
      exact .more (p i).2.1 (by have := hf (p i); rw [← hp] at this; exact this) h1
  have hnd : ¬ ((List.range (g.length + 1)).map fun i => (((p i).1 : Nat) : Int)).Nodup := fun h => by
    have := nodup_lt (M := g.length) h (fun x hx => by
      obtain ⟨i, _, rfl⟩ := List.mem_map.1 hx
      have := (p i).2.1
      omega)
    rw [List.length_map, List.length_range] at this
    exact absurd this (by omega)
  obtain ⟨i, j, hj, hij, e⟩ := not_nodup hnd
  rw [List.getElem_map, List.getElem_map, List.getElem_range, List.getElem_range] at e
  have h2 := hb (j - i - 1) i
  rw [show i + (j - i - 1) + 1 = j by omega, ← e] at h2
  exact ⟨_, by omega, by have := (p i).2.1; omega, h2⟩
/-- THE LAW -/
theorem stuck_cycle {g : List (List Int)} (hin : ∀ r ∈ g, ∀ j ∈ r, 0 ≤ j ∧ j < (g.length : Int)) : (rankE g).length < g.length ↔ ∃ n, 0 ≤ n ∧ n < (g.length : Int) ∧ Below g n n := by
  constructor
  · intro h
    have h1 := (stuck_iff (rankE_ok g)).1 h
    obtain ⟨x, hx⟩ := List.exists_mem_of_ne_nil _ h1
    obtain ⟨h2, h3⟩ := List.mem_filter.1 hx
    have h2 := mem_zeroTo.1 h2
    have e : ((x.toNat : Nat) : Int) = x := Int.toNat_of_nonneg h2.1
    refine cycle_of hin (k := x.toNat) (by omega) ?_
    rw [e]
    cases ha : aget x (rankE g) with
    | none => rfl
    | some v => rw [ha] at h3; cases h3
  · rintro ⟨n, h0, h1, hb⟩
    refine Classical.byContradiction fun hc => ?_
    obtain ⟨v, w, h2, h3, h4⟩ := below_rank (fun k hk => by
      obtain ⟨v, hv, _⟩ := full_has hc (k := (k : Int)) (by omega) (by omega)
      exact ⟨v, hv⟩) hb
    rw [h2] at h3
    injection h3 with h3
    omega
end Go.AM

set_option linter.unusedVariables false
set_option linter.unusedSimpArgs false
set_option maxRecDepth 100000
namespace Go.Proofs.Ythjgnmpnagmeoaa
open Go.AM
noncomputable def cycB (g : List (List Int)) : Nat → Bool
  | 0 => false
  | k + 1 => cycB g k || hasZ (belowF g (k : Int)) (k : Int)
theorem cycB_iff (g : List (List Int)) (k : Nat) : cycB g k = true ↔ ∃ i : Nat, i < k ∧ (i : Int) ∈ belowF g (i : Int) := by
  induction k with
  | zero => exact ⟨fun h => (by cases h), fun ⟨i, h, _⟩ => by omega⟩
  | succ k ih =>
    unfold cycB
    rw [Bool.or_eq_true, ih, show hasZ (belowF g (k : Int)) (k : Int) = decide ((k : Int) ∈ belowF g (k : Int)) from rfl, decide_eq_true_eq]
    constructor
    · rintro (⟨i, h1, h2⟩ | h)
      · exact ⟨i, by omega, h2⟩
      · exact ⟨k, by omega, h⟩
    · rintro ⟨i, h1, h2⟩
      rcases Nat.lt_or_ge i k with h3 | h3
      · exact .inl ⟨i, h3, h2⟩
      · obtain rfl : i = k := by omega
        exact .inr h2
theorem cycB_all {g : List (List Int)} (hin : ∀ r ∈ g, ∀ j ∈ r, 0 ≤ j ∧ j < (g.length : Int)) : cycB g g.length = decide ((rankE g).length < g.length) := by
  rw [Bool.eq_iff_iff, decide_eq_true_eq, cycB_iff, stuck_cycle hin]
  constructor
  · rintro ⟨i, h1, h2⟩
    exact ⟨i, by omega, by omega, (mem_belowF ⟨by omega, by omega⟩).1 h2⟩
  · rintro ⟨n, h0, h1, hb⟩
    refine ⟨n.toNat, by omega, ?_⟩
    rw [Int.toNat_of_nonneg h0]
    exact (mem_belowF ⟨h0, h1⟩).2 hb
set_option maxHeartbeats 4000000 in
theorem ranksCycles_of (hBelow : BelowC) (l : List Se) (hl : l.length ≤ maxLen) (hok : ∀ s ∈ l, s.Ok) (hm : manyN l ≤ 1048576) (hc : ∀ s ∈ l, ∀ i ∈ s.items, cntX i.expr ≤ 1048576) : Ret Try.prog 7 [eL 5 cSe l] [] (.bool true) [] := by
  have hS := small_ret l hl hok
  have hV := live_ret
  by_cases hb : smallB l = true
  · have hL : LOk l := ⟨smallB_len hb, hm, hok, hc⟩
    have k1 := ranks_ret l hL
    have k2 := rMany_ret l hL.len hm
    have k3 := stuck_ret l hL
    have hB := fun (n : Nat) (hn : n < manyN l) => hBelow l hL (n : Int) (by omega)
    have hC := fun (n : Nat) => contains_ret (belowF (graphF l) (n : Int)) (n : Int) (belowF_len l (n : Int) hm)
    have hall := cycB_all (g := graphF l) (fun r hr j hj => by
      obtain ⟨k, hk, rfl⟩ := List.mem_iff_getElem.1 hr
      rw [graphF_at] at hj
      rw [graphF_len]
      exact readsF_lt hj)
    have hst := stuck_iff (rankE_ok (graphF l))
    rw [graphF_len] at hall hst
    unfold ranksF at k1
    rw [graphF_len] at k1
    rw [hb] at hS
    clear hBelow hok hc
    generalize stuckF (manyN l) (rankE (graphF l)) = st at *
    by_cases h : (rankE (graphF l)).length < manyN l
    · rw [if_pos h] at k1
      rw [decide_eq_true h] at hall
      have hst := hst.1 h
      have hsl : (0 : Int) < ((st.length : Nat) : Int) := by have := List.length_pos_iff.2 hst; omega
      generalize graphF l = g at *
      clear hst h
      refine ret_of_body atCalls tok mixed Try.func7 (by kernel_rfl) rfl (k := 55) (rs := [.tmp 2]) (by kernel_rfl) (by kernel_rfl) ?_
      (conv => whnf) <;> repeat' (first | ((first | refine wN ?_ | refine wNc ?_ | refine wA ?_ | refine wB ?_ | refine wC ?_ | refine wD ?_ | refine Called.mk _ _ (hS) ?_ | refine Called.mk _ _ (hV) ?_ | refine Called.mk _ _ (k1) ?_ | refine Called.mk _ _ (k2) ?_ | refine vA ?_ | refine vB ?_ | refine vC ?_ | refine vD ?_ | refine uA ?_ | refine uB ?_ | refine uC ?_ | refine uD ?_); conv => whnf) | ((first | apply Pick.dec | apply Pick.beq | apply Cond.dec | apply Cond.beq | apply Cond.nd | apply Pick.nd | apply Pick.mk | apply Cond.mk) <;> intro h <;> conv => whnf))
      intro J jw js
      have turn : ∀ (d k : Nat), k + d = manyN l → J [eL 5 cSe l, .und, .und, .und, .int .i64 110, .bool (cycB g k), .und, .und, .und, .und, .und, .und, .und, .und, .und, .und, .und, .und, .und, .und, .und, .int .i64 ((manyN l : Nat) : Int), .int .i64 (k : Int), .und, .und, .und, .und, .und, .und, .und, .und, .und, .und, .und, .und, .und, .und, .und, .und, .und, .und, .und, .und, .und, .und, .und, .und, .und, .und, .und, .und, .und, .und, .und, .und] [] := by
        intro d
        induction d with
        | zero =>
          intro k hk
          obtain rfl : k = manyN l := by omega
          rw [hall]
          apply js
          conv => whnf
          refine Cond.ff (decF (by omega)) ?_
          (conv => whnf) <;> repeat' (first | ((first | refine wN ?_ | refine wNc ?_ | refine wA ?_ | refine wB ?_ | refine wC ?_ | refine wD ?_ | refine Called.mk _ _ (k3) ?_ | refine vA ?_ | refine vB ?_ | refine vC ?_ | refine vD ?_ | refine uA ?_ | refine uB ?_ | refine uC ?_ | refine uD ?_); conv => whnf) | ((first | apply Pick.dec | apply Pick.beq | apply Cond.dec | apply Cond.beq | apply Cond.nd | apply Pick.nd | apply Pick.mk | apply Cond.mk) <;> intro h <;> conv => whnf))
          all_goals first | exact End.mk rfl rfl | (exfalso; omega) | (exfalso; simp_all)
        | succ d im =>
          intro k hk
          have im := im (k + 1) (by omega)
          have hb1 := hB k (by omega)
          have hc1 := hC k
          have e1 : IntKind.i64.wrap ((k : Int) + 1) = ((k + 1 : Nat) : Int) := by rw [wi64_id (by omega) (by omega)]; omega
          have hs : cycB g (k + 1) = (cycB g k || hasZ (belowF g (k : Int)) (k : Int)) := rfl
          cases hk1 : cycB g k with
          | true =>
            rw [hs, hk1, Bool.true_or] at im
            apply js
            conv => whnf
            refine Cond.tt (decT (by omega)) ?_
            (conv => whnf) <;> repeat' (first | ((first | refine wN ?_ | refine wNc ?_ | refine wA ?_ | refine wB ?_ | refine wC ?_ | refine wD ?_ | refine vA ?_ | refine vB ?_ | refine vC ?_ | refine vD ?_ | refine uA ?_ | refine uB ?_ | refine uC ?_ | refine uD ?_); conv => whnf) | ((first | apply Pick.dec | apply Pick.beq | apply Cond.dec | apply Cond.beq | apply Cond.nd | apply Pick.nd | apply Pick.mk | apply Cond.mk) <;> intro h <;> conv => whnf))
            rw [e1]
            apply jw [] [true, false, false, false, true, true, false, false, false, false, false, false, false, false, false, false, false, false, false, false, false, true, true] _ _ rfl
            exact im
          | false =>
            rw [hs, hk1, Bool.false_or] at im
            generalize hasZ (belowF g (k : Int)) (k : Int) = hz at *
            apply js
            conv => whnf
            refine Cond.tt (decT (by omega)) ?_
            (conv => whnf) <;> repeat' (first | ((first | refine wN ?_ | refine wNc ?_ | refine wA ?_ | refine wB ?_ | refine wC ?_ | refine wD ?_ | refine Called.mk _ _ (hb1) ?_ | refine Called.mk _ _ (hc1) ?_ | refine vA ?_ | refine vB ?_ | refine vC ?_ | refine vD ?_ | refine uA ?_ | refine uB ?_ | refine uC ?_ | refine uD ?_); conv => whnf) | ((first | apply Pick.dec | apply Pick.beq | apply Cond.dec | apply Cond.beq | apply Cond.nd | apply Pick.nd | apply Pick.mk | apply Cond.mk) <;> intro h <;> conv => whnf))
            rw [e1]
            apply jw [] [true, false, false, false, true, true, false, false, false, false, false, false, false, false, false, false, false, false, false, false, false, true, true] _ _ rfl
            exact im
      apply jw [] [true, false, false, false, true, true, false, false, false, false, false, false, false, false, false, false, false, false, false, false, false, true, true] _ _ rfl
      exact turn (manyN l) 0 (by omega)
    · rw [if_neg h] at k1
      rw [decide_eq_false h] at hall
      have hst : st = [] := Classical.byContradiction fun hn => h (hst.2 hn)
      subst hst
      generalize rOf (manyN l) (rankE (graphF l)) = rr at *
      generalize graphF l = g at *
      clear h
      refine ret_of_body atCalls tok mixed Try.func7 (by kernel_rfl) rfl (k := 55) (rs := [.tmp 2]) (by kernel_rfl) (by kernel_rfl) ?_
      (conv => whnf) <;> repeat' (first | ((first | refine wN ?_ | refine wNc ?_ | refine wA ?_ | refine wB ?_ | refine wC ?_ | refine wD ?_ | refine Called.mk _ _ (hS) ?_ | refine Called.mk _ _ (hV) ?_ | refine Called.mk _ _ (k1) ?_ | refine Called.mk _ _ (k2) ?_ | refine vA ?_ | refine vB ?_ | refine vC ?_ | refine vD ?_ | refine uA ?_ | refine uB ?_ | refine uC ?_ | refine uD ?_); conv => whnf) | ((first | apply Pick.dec | apply Pick.beq | apply Cond.dec | apply Cond.beq | apply Cond.nd | apply Pick.nd | apply Pick.mk | apply Cond.mk) <;> intro h <;> conv => whnf))
      intro J jw js
      have turn : ∀ (d k : Nat), k + d = manyN l → J [eL 5 cSe l, .und, .und, .und, .int .i64 0, .bool (cycB g k), .und, .und, .und, .und, .und, .und, .und, .und, .und, .und, .und, .und, .und, .und, .und, .int .i64 ((manyN l : Nat) : Int), .int .i64 (k : Int), .und, .und, .und, .und, .und, .und, .und, .und, .und, .und, .und, .und, .und, .und, .und, .und, .und, .und, .und, .und, .und, .und, .und, .und, .und, .und, .und, .und, .und, .und, .und, .und] [] := by
        intro d
        induction d with
        | zero =>
          intro k hk
          obtain rfl : k = manyN l := by omega
          rw [hall]
          apply js
          conv => whnf
          refine Cond.ff (decF (by omega)) ?_
          (conv => whnf) <;> repeat' (first | ((first | refine wN ?_ | refine wNc ?_ | refine wA ?_ | refine wB ?_ | refine wC ?_ | refine wD ?_ | refine Called.mk _ _ (k3) ?_ | refine vA ?_ | refine vB ?_ | refine vC ?_ | refine vD ?_ | refine uA ?_ | refine uB ?_ | refine uC ?_ | refine uD ?_); conv => whnf) | ((first | apply Pick.dec | apply Pick.beq | apply Cond.dec | apply Cond.beq | apply Cond.nd | apply Pick.nd | apply Pick.mk | apply Cond.mk) <;> intro h <;> conv => whnf))
          all_goals first | exact End.mk rfl rfl | (exfalso; omega) | (exfalso; simp_all)
        | succ d im =>
          intro k hk
          have im := im (k + 1) (by omega)
          have hb1 := hB k (by omega)
          have hc1 := hC k
          have e1 : IntKind.i64.wrap ((k : Int) + 1) = ((k + 1 : Nat) : Int) := by rw [wi64_id (by omega) (by omega)]; omega
          have hs : cycB g (k + 1) = (cycB g k || hasZ (belowF g (k : Int)) (k : Int)) := rfl
          cases hk1 : cycB g k with
          | true =>
            rw [hs, hk1, Bool.true_or] at im
            apply js
            conv => whnf
            refine Cond.tt (decT (by omega)) ?_
            (conv => whnf) <;> repeat' (first | ((first | refine wN ?_ | refine wNc ?_ | refine wA ?_ | refine wB ?_ | refine wC ?_ | refine wD ?_ | refine vA ?_ | refine vB ?_ | refine vC ?_ | refine vD ?_ | refine uA ?_ | refine uB ?_ | refine uC ?_ | refine uD ?_); conv => whnf) | ((first | apply Pick.dec | apply Pick.beq | apply Cond.dec | apply Cond.beq | apply Cond.nd | apply Pick.nd | apply Pick.mk | apply Cond.mk) <;> intro h <;> conv => whnf))
            rw [e1]
            apply jw [] [true, false, false, false, true, true, false, false, false, false, false, false, false, false, false, false, false, false, false, false, false, true, true] _ _ rfl
            exact im
          | false =>
            rw [hs, hk1, Bool.false_or] at im
            generalize hasZ (belowF g (k : Int)) (k : Int) = hz at *
            apply js
            conv => whnf
            refine Cond.tt (decT (by omega)) ?_
            (conv => whnf) <;> repeat' (first | ((first | refine wN ?_ | refine wNc ?_ | refine wA ?_ | refine wB ?_ | refine wC ?_ | refine wD ?_ | refine Called.mk _ _ (hb1) ?_ | refine Called.mk _ _ (hc1) ?_ | refine vA ?_ | refine vB ?_ | refine vC ?_ | refine vD ?_ | refine uA ?_ | refine uB ?_ | refine uC ?_ | refine uD ?_); conv => whnf) | ((first | apply Pick.dec | apply Pick.beq | apply Cond.dec | apply Cond.beq | apply Cond.nd | apply Pick.nd | apply Pick.mk | apply Cond.mk) <;> intro h <;> conv => whnf))
            rw [e1]
            apply jw [] [true, false, false, false, true, true, false, false, false, false, false, false, false, false, false, false, false, false, false, false, false, true, true] _ _ rfl
            exact im
      apply jw [] [true, false, false, false, true, true, false, false, false, false, false, false, false, false, false, false, false, false, false, false, false, true, true] _ _ rfl
      exact turn (manyN l) 0 (by omega)
  · have hb : smallB l = false := by simpa using hb
    rw [hb] at hS
    refine ret_of_body atCalls tok mixed Try.func7 (by kernel_rfl) rfl (k := 55) (rs := [.tmp 2]) (by kernel_rfl) (by kernel_rfl) ?_
    (conv => whnf) <;> repeat' (first | ((first | refine wN ?_ | refine wNc ?_ | refine wA ?_ | refine wB ?_ | refine wC ?_ | refine wD ?_ | refine Called.mk _ _ (hS) ?_ | refine Called.mk _ _ (hV) ?_ | refine vA ?_ | refine vB ?_ | refine vC ?_ | refine vD ?_ | refine uA ?_ | refine uB ?_ | refine uC ?_ | refine uD ?_); conv => whnf) | ((first | apply Pick.dec | apply Pick.beq | apply Cond.dec | apply Cond.beq | apply Cond.nd | apply Pick.nd | apply Pick.mk | apply Cond.mk) <;> intro h <;> conv => whnf))
    all_goals exact End.mk rfl rfl
end Go.Proofs.Ythjgnmpnagmeoaa

