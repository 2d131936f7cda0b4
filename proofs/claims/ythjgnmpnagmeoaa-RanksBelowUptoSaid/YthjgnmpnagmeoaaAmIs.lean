/- What is below an item: who reads it, by one step or more. -/
import Derived.Test.YthjgnmpnagmeoaaAmIf
import Derived.Test.YthjgnmpnagmeoaaAmHf
set_option linter.unusedVariables false
set_option linter.unusedSimpArgs false
set_option maxRecDepth 100000
namespace Go.AM
inductive Below (g : List (List Int)) (n : Int) : Int → Prop
  | one {k : Nat} (h : k < g.length) (hn : n ∈ g[k]) : Below g n (k : Int)
  | more {k : Nat} {j : Int} (h : k < g.length) (hj : j ∈ g[k]) (hb : Below g n j) : Below g n (k : Int)
noncomputable def belowF (g : List (List Int)) (n : Int) : List Int := if 0 ≤ n ∧ n < (g.length : Int) then (zeroTo g.length).filter fun k => @decide (Below g n k) (Classical.propDecidable _) else []
theorem Below.rng {g : List (List Int)} {n k : Int} (h : Below g n k) : 0 ≤ k ∧ k < (g.length : Int) := by cases h <;> omega
theorem mem_belowF {g : List (List Int)} {n k : Int} (hn : 0 ≤ n ∧ n < (g.length : Int)) : k ∈ belowF g n ↔ Below g n k := by
  unfold belowF
  rw [if_pos hn, List.mem_filter, mem_zeroTo]
  exact ⟨fun h => @of_decide_eq_true _ (Classical.propDecidable _) h.2, fun h => ⟨h.rng, @decide_eq_true _ (Classical.propDecidable _) h⟩⟩
theorem belowF_lt (g : List (List Int)) (n : Int) : (belowF g n).Pairwise (· < ·) := by
  unfold belowF
  split
  · exact (zeroTo_lt _).sublist List.filter_sublist
  · exact .nil
/-- who was found to be below -/
structure BOk (g : List (List Int)) (n : Int) (B : List Bool) : Prop where
  len : B.length = g.length
  snd : ∀ k : Nat, k < g.length → B.getD k false = true → Below g n (k : Int)
def closedAt (g : List (List Int)) (n : Int) (B : List Bool) (k : Nat) : Prop := ∀ j ∈ g.getD k [], (j = n ∨ B.getD j.toNat false = true) → B.getD k false = true
theorem BOk.exact_ {g : List (List Int)} {n : Int} {B : List Bool} (h : BOk g n B) (hc : ∀ k, k < g.length → closedAt g n B k) {k : Int} (hb : Below g n k) : B.getD k.toNat false = true := by
  induction hb with
  | @one k hk hn =>
    have := hc k hk n (by rw [List.getD_eq_getElem?_getD, List.getElem?_eq_getElem hk]; exact hn) (.inl rfl)
    simpa using this
  | @more k j hk hj _ ih =>
    have := hc k hk j (by rw [List.getD_eq_getElem?_getD, List.getElem?_eq_getElem hk]; exact hj) (.inr ih)
    simpa using this
theorem getB_set {B : List Bool} {k i : Nat} (h : k < B.length) : (B.set k true).getD i false = if i = k then true else B.getD i false := by
  rw [List.getD_eq_getElem?_getD, List.getElem?_set]
  by_cases hi : k = i
  · subst hi; simp [h]
  · rw [if_neg hi, if_neg (fun e => hi e.symm), ← List.getD_eq_getElem?_getD]
theorem BOk.set {g : List (List Int)} {n : Int} {B : List Bool} (h : BOk g n B) {k : Nat} (hk : k < g.length) {j : Int} (hj : j ∈ g[k]) (hjr : 0 ≤ j ∧ j < (g.length : Int)) (hb : j = n ∨ B.getD j.toNat false = true) : BOk g n (B.set k true) := by
  refine ⟨by rw [List.length_set]; exact h.len, fun i hi ht => ?_⟩
  rw [getB_set (by rw [h.len]; exact hk)] at ht
  split at ht
  · rename_i e
    subst e
    rcases hb with rfl | hb
    · exact .one hk hj
    · have := h.snd j.toNat (by omega) hb
      rw [Int.toNat_of_nonneg hjr.1] at this
      exact .more hk hj this
  · exact h.snd i hi ht
theorem count_set : ∀ {B : List Bool} {k : Nat}, k < B.length → B.getD k false = false → (B.set k true).count false + 1 = B.count false
  | [], _, h, _ => by simp at h
  | b :: B, 0, _, hf => by
    have : b = false := by simpa using hf
    subst this
    simp
  | b :: B, k + 1, h, hf => by
    have := count_set (B := B) (k := k) (by simpa using h) (by simpa using hf)
    rw [List.set_cons_succ, List.count_cons, List.count_cons]
    omega
def gB (B : List Bool) : Nat → List Val := fun i => [.bool (B.getD i false)]
theorem gB_zero (M : Nat) : (fun _ => [Val.bool false]) = gB (List.replicate M false) := by
  funext i
  unfold gB
  rw [List.getD_eq_getElem?_getD, List.getElem?_replicate]
  by_cases h : i < M <;> simp [h]
theorem gB_set {B : List Bool} {i : Nat} (h : i < B.length) : (fun k => if k = i then (gB B i).take 0 ++ [Val.bool true] ++ (gB B i).drop (0 + [Val.bool true].length) else gB B k) = gB (B.set i true) := by
  funext k
  unfold gB
  rw [getB_set h]
  split <;> simp
end Go.AM

set_option linter.unusedVariables false
set_option linter.unusedSimpArgs false
set_option maxRecDepth 100000
namespace Go.AM
def usAt (us : List (List Int)) (m : Int) : List Int := if m < 0 then [] else us.getD m.toNat []
def dfsF : Nat → List (List Int) → List Int → List (Int × Unit) → List (Int × Unit)
  | 0, _, _, es => es
  | f + 1, us, ks, es => ks.foldl (fun es k => if (aget k es).isSome = true then es else dfsF f us (usAt us k) (aput k () es)) es
structure SOk (M : Nat) (es : List (Int × Unit)) : Prop where
  nd : (keysZ es).Nodup
  lt : ∀ k ∈ keysZ es, 0 ≤ k ∧ k < (M : Int)
theorem SOk.len {M : Nat} {es : List (Int × Unit)} (h : SOk M es) : es.length ≤ M := by
  have := nodup_lt h.nd h.lt
  simpa [keysZ] using this
theorem SOk.put {M : Nat} {es : List (Int × Unit)} (h : SOk M es) {k : Int} (hk : 0 ≤ k ∧ k < (M : Int)) (hn : ¬ (aget k es).isSome = true) : SOk M (aput k () es) ∧ (aput k () es).length = es.length + 1 := by
  have hn : k ∉ keysZ es := fun hm => hn (aget_some.2 hm)
  rw [aput_new hn]
  refine ⟨⟨?_, ?_⟩, by simp⟩
  · have : keysZ (es ++ [(k, ())]) = keysZ es ++ [k] := by simp [keysZ]
    rw [this]
    refine List.nodup_append.2 ⟨h.nd, by simp, fun a ha b hb => ?_⟩
    have : b = k := by simpa using hb
    subst this
    exact fun e => hn (e ▸ ha)
  · intro j hj
    have : keysZ (es ++ [(k, ())]) = keysZ es ++ [k] := by simp [keysZ]
    rw [this] at hj
    rcases List.mem_append.1 hj with hj | hj
    · exact h.lt j hj
    · obtain rfl : j = k := by simpa using hj
      exact hk
theorem usAt_rng {us : List (List Int)} {M : Int} (hu : ∀ r ∈ us, ∀ j ∈ r, 0 ≤ j ∧ j < M) {m j : Int} (hj : j ∈ usAt us m) : 0 ≤ j ∧ j < M := by
  unfold usAt at hj
  split at hj
  · cases hj
  · rw [List.getD_eq_getElem?_getD] at hj
    cases h : us[m.toNat]? with
    | none => rw [h] at hj; cases hj
    | some r => rw [h] at hj; exact hu r (List.mem_of_getElem? h) j hj
theorem dfs_ok {us : List (List Int)} {M : Nat} (hu : ∀ r ∈ us, ∀ j ∈ r, 0 ≤ j ∧ j < (M : Int)) : ∀ (f : Nat) (ks : List Int) (es : List (Int × Unit)), (∀ k ∈ ks, 0 ≤ k ∧ k < (M : Int)) → SOk M es → SOk M (dfsF f us ks es) ∧ es.length ≤ (dfsF f us ks es).length
  | 0, ks, es, _, h => ⟨h, Nat.le_refl _⟩
  | f + 1, ks, es, hk, h => by
    show SOk M (ks.foldl _ es) ∧ es.length ≤ (ks.foldl _ es).length
    induction ks generalizing es with
    | nil => exact ⟨h, Nat.le_refl _⟩
    | cons k ks ih =>
      rw [List.foldl_cons]
      by_cases hs : (aget k es).isSome = true
      · rw [if_pos hs]
        exact ih es (fun j hj => hk j (List.mem_cons_of_mem _ hj)) h
      · rw [if_neg hs]
        obtain ⟨h1, h2⟩ := h.put (hk k (List.mem_cons_self ..)) hs
        obtain ⟨h3, h4⟩ := dfs_ok hu f (usAt us k) _ (fun j hj => usAt_rng hu hj) h1
        obtain ⟨h5, h6⟩ := ih _ (fun j hj => hk j (List.mem_cons_of_mem _ hj)) h3
        exact ⟨h5, by omega⟩
end Go.AM

set_option linter.unusedVariables false
set_option linter.unusedSimpArgs false
set_option maxRecDepth 100000
namespace Go.AM
theorem keys_aput {k x : Int} {es : List (Int × Unit)} (hn : ¬ (aget k es).isSome = true) : x ∈ keysZ (aput k () es) ↔ x ∈ keysZ es ∨ x = k := by
  have hn : k ∉ keysZ es := fun hm => hn (aget_some.2 hm)
  rw [aput_new hn]
  have : keysZ (es ++ [(k, ())]) = keysZ es ++ [k] := by simp [keysZ]
  rw [this]; simp
theorem dfs_closed {us : List (List Int)} {M : Nat} (hu : ∀ r ∈ us, ∀ j ∈ r, 0 ≤ j ∧ j < (M : Int)) : ∀ (f : Nat) (ks : List Int) (es : List (Int × Unit)), (∀ k ∈ ks, 0 ≤ k ∧ k < (M : Int)) → SOk M es → M < f + es.length →
    (∀ x ∈ keysZ es, x ∈ keysZ (dfsF f us ks es)) ∧ (∀ x ∈ ks, x ∈ keysZ (dfsF f us ks es)) ∧ ∀ x ∈ keysZ (dfsF f us ks es), x ∉ keysZ es → ∀ y ∈ usAt us x, y ∈ keysZ (dfsF f us ks es)
  | 0, ks, es, _, h, hf => by have := h.len; omega
  | f + 1, ks, es, hk, h, hf => by
    show (∀ x ∈ keysZ es, x ∈ keysZ (ks.foldl _ es)) ∧ (∀ x ∈ ks, x ∈ keysZ (ks.foldl _ es)) ∧ ∀ x ∈ keysZ (ks.foldl _ es), x ∉ keysZ es → ∀ y ∈ usAt us x, y ∈ keysZ (ks.foldl _ es)
    induction ks generalizing es with
    | nil => exact ⟨fun x hx => hx, fun x hx => (by cases hx), fun x hx hn => absurd hx hn⟩
    | cons k ks ih =>
      rw [List.foldl_cons]
      by_cases hs : (aget k es).isSome = true
      · rw [if_pos hs]
        obtain ⟨h1, h2, h3⟩ := ih es (fun j hj => hk j (List.mem_cons_of_mem _ hj)) h hf
        refine ⟨h1, fun x hx => ?_, h3⟩
        rcases List.mem_cons.1 hx with rfl | hx
        · exact h1 _ (aget_some.1 hs)
        · exact h2 x hx
      · rw [if_neg hs]
        obtain ⟨p1, p2⟩ := h.put (hk k (List.mem_cons_self ..)) hs
        obtain ⟨q1, q2⟩ := dfs_ok hu f (usAt us k) _ (fun j hj => usAt_rng hu hj) p1
        obtain ⟨c1, c2, c3⟩ := dfs_closed hu f (usAt us k) _ (fun j hj => usAt_rng hu hj) p1 (by omega)
        generalize dfsF f us (usAt us k) (aput k () es) = e2 at *
        obtain ⟨h1, h2, h3⟩ := ih e2 (fun j hj => hk j (List.mem_cons_of_mem _ hj)) q1 (by omega)
        have hke : k ∈ keysZ e2 := c1 k ((keys_aput hs).2 (.inr rfl))
        refine ⟨fun x hx => h1 x (c1 x ((keys_aput hs).2 (.inl hx))), fun x hx => ?_, fun x hx hn y hy => ?_⟩
        · rcases List.mem_cons.1 hx with rfl | hx
          · exact h1 _ hke
          · exact h2 x hx
        · by_cases hx2 : x ∈ keysZ e2
          · by_cases hxk : x = k
            · subst hxk; exact h1 y (c2 y hy)
            · exact h1 y (c3 x hx2 (fun hp => by
                rcases (keys_aput hs).1 hp with h9 | h9
                · exact hn h9
                · exact hxk h9) y hy)
          · exact h3 x hx hx2 y hy
theorem dfs_sound {us : List (List Int)} {Q : Int → Prop} (hQ : ∀ x, Q x → ∀ y ∈ usAt us x, Q y) : ∀ (f : Nat) (ks : List Int) (es : List (Int × Unit)), (∀ k ∈ ks, Q k) → ∀ x ∈ keysZ (dfsF f us ks es), x ∈ keysZ es ∨ Q x
  | 0, ks, es, _, x, hx => .inl hx
  | f + 1, ks, es, hk, x, hx => by
    have hx : x ∈ keysZ (ks.foldl (fun es k => if (aget k es).isSome = true then es else dfsF f us (usAt us k) (aput k () es)) es) := hx
    induction ks generalizing es with
    | nil => exact .inl hx
    | cons k ks ih =>
      rw [List.foldl_cons] at hx
      by_cases hs : (aget k es).isSome = true
      · rw [if_pos hs] at hx
        exact ih es (fun j hj => hk j (List.mem_cons_of_mem _ hj)) hx hx
      · rw [if_neg hs] at hx
        rcases ih _ (fun j hj => hk j (List.mem_cons_of_mem _ hj)) hx hx with h1 | h1
        · rcases dfs_sound hQ f (usAt us k) _ (fun j hj => hQ k (hk k (List.mem_cons_self ..)) j hj) x h1 with h2 | h2
          · rcases (keys_aput hs).1 h2 with h3 | h3
            · exact .inl h3
            · exact .inr (h3 ▸ hk k (List.mem_cons_self ..))
          · exact .inr h2
        · exact .inr h1
/-- users, out of the graph -/
def usOf (g : List (List Int)) : List (List Int) := (List.range g.length).map fun (m : Nat) => (zeroTo g.length).filter fun k => decide ((m : Int) ∈ g.getD k.toNat [])
theorem usOf_len (g : List (List Int)) : (usOf g).length = g.length := by simp [usOf]
theorem mem_usAt {g : List (List Int)} {m k : Int} : k ∈ usAt (usOf g) m ↔ (0 ≤ m ∧ m < (g.length : Int)) ∧ ∃ (i : Nat) (h : i < g.length), k = (i : Int) ∧ m ∈ g[i] := by
  unfold usAt
  by_cases h0 : m < 0
  · rw [if_pos h0]
    exact ⟨fun h => (by cases h), fun h => by omega⟩
  · rw [if_neg h0]
    by_cases h1 : m.toNat < g.length
    · have e : (usOf g).getD m.toNat [] = (zeroTo g.length).filter fun k => decide (m ∈ g.getD k.toNat []) := by
        unfold usOf
        rw [List.getD_eq_getElem?_getD, List.getElem?_map, List.getElem?_range h1]
        show (zeroTo g.length).filter (fun k => decide (((m.toNat : Nat) : Int) ∈ g.getD k.toNat [])) = _
        rw [Int.toNat_of_nonneg (by omega)]
      rw [e, List.mem_filter, mem_zeroTo, decide_eq_true_eq]
      refine ⟨fun ⟨h2, h3⟩ => ⟨by omega, k.toNat, by omega, by omega, ?_⟩, fun ⟨_, i, hi, e1, h3⟩ => ⟨by omega, ?_⟩⟩
      · rw [List.getD_eq_getElem?_getD, List.getElem?_eq_getElem (by omega)] at h3; exact h3
      · subst e1
        rw [Int.toNat_natCast, List.getD_eq_getElem?_getD, List.getElem?_eq_getElem hi]; exact h3
    · rw [List.getD_eq_getElem?_getD, List.getElem?_eq_none (by rw [usOf_len]; omega)]
      exact ⟨fun h => (by cases h), fun h => by omega⟩
theorem usOf_rng (g : List (List Int)) : ∀ r ∈ usOf g, ∀ j ∈ r, 0 ≤ j ∧ j < (g.length : Int) := fun r hr j hj => by
  obtain ⟨m, _, rfl⟩ := List.mem_map.1 hr
  exact mem_zeroTo.1 (List.mem_filter.1 hj).1
theorem usOf_row (g : List (List Int)) : ∀ r ∈ usOf g, r.length ≤ g.length := fun r hr => by
  obtain ⟨m, _, rfl⟩ := List.mem_map.1 hr
  have := List.length_filter_le (fun k : Int => decide ((m : Int) ∈ g.getD k.toNat [])) (zeroTo g.length)
  rw [zeroTo_len] at this
  exact this
/-- THE LAW: what the walk meets, sorted, is what is below -/
theorem dfs_below (g : List (List Int)) (n : Int) : SOk g.length (dfsF (g.length + 1) (usOf g) (usAt (usOf g) n) []) ∧ sortZ (keysZ (dfsF (g.length + 1) (usOf g) (usAt (usOf g) n) [])) = belowF g n := by
  have h0 : SOk g.length [] := ⟨by simp [keysZ], fun k hk => absurd hk (by simp [keysZ])⟩
  have hr : ∀ k ∈ usAt (usOf g) n, 0 ≤ k ∧ k < (g.length : Int) := fun k hk => usAt_rng (usOf_rng g) hk
  have hok := dfs_ok (usOf_rng g) (g.length + 1) (usAt (usOf g) n) [] hr h0
  obtain ⟨_, h2, h3⟩ := dfs_closed (usOf_rng g) (g.length + 1) (usAt (usOf g) n) [] hr h0 (by simp)
  have hQ : ∀ x, Below g n x → ∀ y ∈ usAt (usOf g) x, Below g n y := fun x hx y hy => by
    obtain ⟨_, i, hi, rfl, hm⟩ := mem_usAt.1 hy
    exact .more hi hm hx
  have h4 := dfs_sound hQ (g.length + 1) (usAt (usOf g) n) [] (fun k hk => by
    obtain ⟨_, i, hi, rfl, hm⟩ := mem_usAt.1 hk
    exact .one hi hm)
  refine ⟨hok.1, ?_⟩
  by_cases hn : 0 ≤ n ∧ n < (g.length : Int)
  · generalize dfsF (g.length + 1) (usOf g) (usAt (usOf g) n) [] = es at *
    have hiff : ∀ x, x ∈ keysZ es ↔ x ∈ belowF g n := fun x => by
      rw [mem_belowF hn]
      refine ⟨fun hx => (h4 x hx).resolve_left (by simp [keysZ]), fun hx => ?_⟩
      induction hx with
      | @one k hk hm => exact h2 _ (mem_usAt.2 ⟨hn, k, hk, rfl, hm⟩)
      | @more k j hk hj hb ih => exact h3 j ih (by simp [keysZ]) _ (mem_usAt.2 ⟨hb.rng, k, hk, rfl, hj⟩)
    have hlt := belowF_lt g n
    have hp : (keysZ es).Perm (belowF g n) := by
      have hnd2 : (belowF g n).Nodup := List.nodup_iff_pairwise_ne.2 (hlt.imp fun h => by omega)
      exact perm_all hok.1.nd hnd2 (fun x hx => (hiff x).1 hx) (hnd2.length_le_of_subset fun x hx => (hiff x).2 hx)
    exact sorted_eq (sortZ_sorted _) (hlt.imp fun h => by omega) ((sortZ_perm _).trans hp)
  · have e1 : usAt (usOf g) n = [] := List.eq_nil_iff_forall_not_mem.2 fun k hk => hn (mem_usAt.1 hk).1
    have e2 : belowF g n = [] := if_neg hn
    rw [e2, e1]
    show sortZ (keysZ ([] : List (Int × Unit))) = []
    simp [sortZ, keysZ]
end Go.AM

set_option linter.unusedVariables false
set_option linter.unusedSimpArgs false
set_option maxRecDepth 100000
namespace Go.AM
def usPre (g : List (List Int)) (k : Nat) (pre : List Int) : List (List Int) :=
  (List.range g.length).map fun (r : Nat) => (zeroTo k).filter (fun i => decide ((r : Int) ∈ g.getD i.toNat [])) ++ if (r : Int) ∈ pre then [(k : Int)] else []
theorem usPre_len (g : List (List Int)) (k : Nat) (pre : List Int) : (usPre g k pre).length = g.length := by simp [usPre]
theorem usPre_zero (g : List (List Int)) : usPre g 0 [] = List.replicate g.length [] := by
  refine List.ext_getElem (by simp [usPre]) fun i h1 h2 => ?_
  simp [usPre, zeroTo]
theorem usPre_full (g : List (List Int)) : usPre g g.length [] = usOf g := by simp [usPre, usOf]
theorem zeroTo_succ (k : Nat) : zeroTo (k + 1) = zeroTo k ++ [(k : Int)] := by simp [zeroTo, List.range_succ]
theorem usPre_next (g : List (List Int)) (k : Nat) : usPre g k (g.getD k []) = usPre g (k + 1) [] := by
  unfold usPre
  refine List.map_congr_left fun r _ => ?_
  rw [zeroTo_succ, List.filter_append]
  have e1 : decide ((r : Int) ∈ g.getD ((k : Int)).toNat []) = decide ((r : Int) ∈ g.getD k []) := by rw [Int.toNat_natCast]
  rw [List.filter_cons, e1, if_neg (show ¬ (r : Int) ∈ ([] : List Int) by simp), List.append_nil]
  by_cases h : (r : Int) ∈ g.getD k []
  · rw [if_pos h, if_pos (by rw [decide_eq_true_eq]; exact h)]; rfl
  · rw [if_neg h, if_neg (by rw [decide_eq_true_eq]; exact h)]; rfl
theorem usPre_get {g : List (List Int)} {k : Nat} {pre : List Int} {r : Nat} (h : r < g.length) : (usPre g k pre).getD r [] = (zeroTo k).filter (fun i => decide ((r : Int) ∈ g.getD i.toNat [])) ++ if (r : Int) ∈ pre then [(k : Int)] else [] := by
  unfold usPre
  rw [List.getD_eq_getElem?_getD, List.getElem?_map, List.getElem?_range h]; rfl
theorem usPre_row {g : List (List Int)} {k : Nat} {pre : List Int} {r : Nat} (h : r < g.length) : ((usPre g k pre).getD r []).length ≤ k + 1 := by
  rw [usPre_get h, List.length_append]
  have := List.length_filter_le (fun i : Int => decide ((r : Int) ∈ g.getD i.toNat [])) (zeroTo k)
  rw [zeroTo_len] at this
  split <;> simp only [List.length_cons, List.length_nil] <;> omega
theorem usPre_put {g : List (List Int)} {k : Nat} {pre : List Int} {x : Int} (h0 : 0 ≤ x) (h1 : x < (g.length : Int)) (hn : x ∉ pre) :
    (usPre g k pre).set x.toNat ((usPre g k pre).getD x.toNat [] ++ [(k : Int)]) = usPre g k (pre ++ [x]) := by
  have hx : x.toNat < g.length := by omega
  refine List.ext_getElem (by simp [usPre]) fun i h2 h3 => ?_
  rw [usPre_len] at h3
  rw [List.getElem_set]
  have e3 : (usPre g k (pre ++ [x]))[i] = (usPre g k (pre ++ [x])).getD i [] := by rw [List.getD_eq_getElem?_getD, List.getElem?_eq_getElem]; rfl
  rw [e3, usPre_get h3]
  split
  · rename_i e
    subst e
    rw [usPre_get hx, Int.toNat_of_nonneg h0, if_neg hn, List.append_nil, if_pos (by simp)]
  · rename_i e
    have e4 : (usPre g k pre)[i]'(by rw [usPre_len]; exact h3) = (usPre g k pre).getD i [] := by rw [List.getD_eq_getElem?_getD, List.getElem?_eq_getElem]; rfl
    rw [e4, usPre_get h3]
    have hne : (i : Int) ≠ x := by omega
    by_cases hp : (i : Int) ∈ pre <;> simp [hp, hne]
theorem readsF_nodup (l : List Se) (n : Int) : (readsF l n).Nodup := by
  unfold readsF
  split
  · exact (sortZ_perm _).nodup_iff.2 (readsW_nodup _ _ _)
  · exact .nil
theorem graphF_getD {l : List Se} {k : Nat} (h : k < manyN l) : (graphF l).getD k [] = readsF l (k : Int) := by
  rw [List.getD_eq_getElem?_getD, graphF_get h]; rfl
end Go.AM

set_option linter.unusedVariables false
set_option linter.unusedSimpArgs false
set_option maxRecDepth 100000
namespace Go.AM
noncomputable section
open Go.RowKit

/-- What a piece of code does, whoever shows it. -/
structure Holds (P : Program) (n : Nat) (c : Code) (tm : List Val) (hp : List Blk) (K : Kont) : Prop where
  run : ∀ (w0 : World) (S : Nat → Prop) (φ0 : Prot) (ι0 : Map) (Q : Exit → Act → World → Prop) (a : Act) (w : World), St w0 S φ0 ι0 n tm hp a w →
    (∀ e tm hp a w, K e tm hp → St w0 S φ0 ι0 n tm hp a w → Q e.to a w) → c.wp P Q a w
theorem Holds.of_wp {P : Program} {T : TypeId → TD} {R : Nat → List Oper → Bool} {n : Nat} {c : Code} {tm : List Val} {hp : List Blk} {K : Kont} (hT : TOk P T) (hm : P.follows .mixedOrders = true) (h : wp P T R n c none tm hp K) : Holds P n c tm hp K :=
  ⟨fun _ _ _ _ Q a w hs hQ => wp_sound hT hm c none tm hp K h Q a w hs hQ⟩
theorem Holds.seq {P : Program} {n : Nat} {c d : Code} {tm : List Val} {hp : List Blk} {K : Kont} (h : Holds P n c tm hp (thenK (fun tm hp K => Holds P n d tm hp K) K)) : Holds P n (.seq c d) tm hp K := by
  refine ⟨fun w0 S φ0 ι0 Q a w hs hQ => ?_⟩
  refine wp_seq (h.run w0 S φ0 ι0 _ a w hs fun e tm hp a w hk hs => ?_)
  cases e with
  | normal => exact hk.run w0 S φ0 ι0 Q a w hs hQ
  | exit id => exact hQ (.exit id) tm hp a w hk hs
  | goto l => exact hQ (.goto l) tm hp a w hk hs
  | ret => exact hQ .ret tm hp a w hk hs

/-- FROM WHAT THE BODY DOES TO THE CONTRACT. -/
theorem ret_of_holds {P : Program} {T : TypeId → TD} {f : FuncId} {fn : Func} {c : Code} {args : List Val} {h : List Blk} {v : Val} {h' : List Blk} (hT : TOk P T)
    (hf : P.funcs[f]? = some fn) (hn : (fn.name == "runtime.NumGoroutine") = false) (hb : fn.body = some c) {k : Nat} {rs : List ResultVar} (hk : fn.ntmps = k) (hr : fn.results.toList = rs)
    (hbody : padK args k fun tm => Holds P h.length c tm h (finK T rs h.length v h')) : Ret P f args h v h' := by
  refine ⟨⟨fn, c, hf, hn, hb⟩, fun ι φ w cargs hnone hsim hargs => ?_⟩
  subst hk; subst hr
  rw [padK_eq] at hbody
  have hI0 : Inv w (handed ι h) φ ι φ (getH h) w := by
    refine ⟨hsim, .refl _ _, fun b g c hb e => .inl ?_, fun a ha => .inl ha, .refl _⟩
    refine ⟨b, c, ?_, hb, e⟩
    rcases Nat.lt_or_ge b h.length with hl | hl
    · exact hl
    · exact absurd (getH_ge hl) hb
  have htm : TmOk ι φ (args ++ List.replicate (fn.ntmps - args.length) (.tup [])) (cargs ++ Array.replicate (fn.ntmps - cargs.size) undef) := by
    refine hargs.app ⟨by simp [hargs.len], fun i hi => ?_⟩
    rw [List.length_replicate] at hi
    have e1 : (List.replicate (fn.ntmps - args.length) (Val.tup [])).getD i .und = .tup [] := by simp [List.getD_eq_getElem?_getD, hi]
    have e2 : (Array.replicate (fn.ntmps - cargs.size) undef).getD i undef = undef := by
      rw [Array.getD_eq_getD_getElem?, Array.getElem?_replicate]; split <;> rfl
    rw [e1, e2]; exact rel_undef ι φ
  refine calls_of_wp hf hb (hbody.run w (handed ι h) φ ι _ _ _ ⟨ι, φ, hI0, htm, hnone, fun _ _ => rfl, Nat.le_refl _, rfl⟩ fun e tm hp a w' hk hs => ?_)
  have fin : (resK T tm hp fn.results.toList fun vs => tupK vs fun x => endK h.length x hp v h') → a.defers = [] ∧ ∃ cv, (results fn a.tmps).run P w' = .ok cv w' ∧ ∃ cv' ι' φ', Ending.returned cv = .returned cv' ∧ MapLe ι ι' ∧ Inv w (handed ι h) φ ι' φ' (getH h') w' ∧ Rel ι' φ' v cv' ∧ ∀ b, h'.length ≤ b → ι' b = none := fun hk => by
    obtain ⟨ι1, φ1, hI, ht, hend, h0, hn, hdf⟩ := hs
    obtain ⟨vs, us, h1, h2, h3, h4⟩ := resK_ok hT hI ht hk
    -- the value
    have hval : ∃ x cv, endK h.length x hp v h' ∧ (results fn a.tmps).run P w' = .ok cv w' ∧ Rel ι1 φ1 x cv := by
      rw [results_list]
      simp only [Sem.run_bind, h2, Result.andThen_ok, Sem.run_pure]
      unfold tupK at h1
      split at h1
      · rename_i x
        refine ⟨x, _, h1, rfl, ?_⟩
        have h3' : us.length = 1 := h3
        have hl : us.toArray.size = 1 := h3'
        rw [dif_pos hl]
        have := h4 0 (by simp)
        rw [List.getD_eq_getElem?_getD, List.getD_eq_getElem?_getD, List.getElem?_eq_getElem (by omega : 0 < us.length)] at this
        exact this
      · rename_i hne
        refine ⟨_, _, h1, rfl, ?_⟩
        have hl : ¬ us.toArray.size = 1 := by
          intro hl
          have : vs.length = 1 := by rw [← h3]; simpa using hl
          obtain ⟨x, rfl⟩ := List.length_eq_one_iff.1 this
          exact hne x rfl
        rw [dif_neg hl]
        exact .tup _ _ (by simpa using h3) fun i hi => by rw [toArr_getD]; exact h4 i hi
    obtain ⟨x, cv, he, hrun, hx⟩ := hval
    refine ⟨hdf, cv, hrun, cv, ?_⟩
    unfold endK at he
    split at he
    · rename_i hn0 hcl
      obtain ⟨rfl, rfl⟩ := he
      have := hI.sub (ks := []) List.nodup_nil
      exact ⟨subM [] ι1, φ1, rfl, (fun b p e => by rw [hnone b (by omega)] at e; cases e), by simpa using this, hx.closedR_ hcl, fun b _ => subM_ge (by simp)⟩
    · obtain ⟨ks, hkk, rfl, he⟩ := he
      rw [sel_eq] at he
      subst he
      obtain ⟨hnd, hpre⟩ := keepB_ok hkk
      refine ⟨subM ks ι1, φ1, rfl, fun b p e => ?_, hI.sub hnd, hx.ren subM_under, fun b hb => subM_ge (by simpa using hb)⟩
      rcases Nat.lt_or_ge b h.length with hl | hl
      · simp only [subM, hpre b hl]; rw [h0 b hl]; exact e
      · rw [hnone b hl] at e; cases e
  cases e with
  | normal => exact fin hk
  | ret => exact fin hk
  | exit id => exact hk.elim
  | goto l => exact hk.elim
end
end Go.AM

set_option linter.unusedVariables false
set_option linter.unusedSimpArgs false
set_option maxRecDepth 100000
namespace Go.AM
noncomputable section
open Go.RowKit

def noM : Map := fun _ => none
def noH : Nat → Blk := fun _ => .gone
theorem getH_nil : getH [] = noH := by funext b; simp [getH, noH]

structure Grid (φ : Prot) (w : World) (O : Nat → Prop) (g0 : Nat) (tI : TypeId) (us : List (List Int)) (gU cU : Nat) (arr : Array Value) (G C : Nat → Nat) : Prop where
  box : ∃ t, w.heap[g0]? = some (.cells #[.slice (some ⟨gU, 0, none⟩) us.length cU] t (0, 0))
  row : ∃ t, w.heap[gU]? = some (.cells arr t (0, 0))
  size : arr.size = cU
  len : us.length ≤ cU
  one : ∀ i, i < arr.size → plain (arr.getD i undef) = true
  nil : ∀ i, i < us.length → us.getD i [] = [] → arr.getD i undef = .slice none 0 0
  inner : ∀ i, i < us.length → us.getD i [] ≠ [] → arr.getD i undef = .slice (some ⟨G i, 0, none⟩) (us.getD i []).length (C i) ∧ (us.getD i []).length ≤ C i ∧
    BlkOk (fun _ => some (G i, C i)) φ w 0 (.row tI 1 (us.getD i []).length (getL cI (us.getD i [])) 0) ∧ G i ≠ g0 ∧ G i ≠ gU ∧ O (G i)
  inj : ∀ i j, i < us.length → j < us.length → us.getD i [] ≠ [] → us.getD j [] ≠ [] → G i = G j → i = j
  ne : g0 ≠ gU
  lo0 : O g0
  loU : O gU
  free0 : ∀ off sp, φ ⟨g0, off, sp⟩ = none
  freeU : ∀ off sp, φ ⟨gU, off, sp⟩ = none
theorem maskK_imp {σ : Nat → Option Nat} : ∀ {A B : List Val → Prop}, (∀ l, A l → B l) → ∀ (tm : List Val) (m : List Bool), maskK σ tm m A → maskK σ tm m B
  | _, _, h, [], _, k => h _ k
  | _, _, h, _ :: tm, [], k => maskK_imp (fun l hl => h _ hl) tm [] k
  | _, _, h, _ :: tm, false :: m, k => maskK_imp (fun l hl => h _ hl) tm m k
  | _, _, h, _ :: tm, true :: m, k => maskK_imp (fun l hl => h _ hl) tm m k
/-- a row's block under another name -/
theorem row_at {ι ι' : Map} {φ : Prot} {w : World} {b b' : Nat} {t : TypeId} {sz n pr : Nat} {get : Nat → List Val} (h : BlkOk ι φ w b (.row t sz n get pr)) (e : ι' b' = ι b) : BlkOk ι' φ w b' (.row t sz n get pr) := by
  obtain ⟨g, c, arr, e1, rest⟩ := h
  exact ⟨g, c, arr, e.trans e1, rest⟩
theorem row_lt {φ : Prot} {w : World} {g c b : Nat} {t : TypeId} {sz n pr : Nat} {get : Nat → List Val} (h : BlkOk (fun _ => some (g, c)) φ w b (.row t sz n get pr)) : g < w.heap.size ∧ (pr = 0 → ∀ off sp, φ ⟨g, off, sp⟩ = none) := by
  obtain ⟨g', c', arr, e1, hh, _, _, _, _, _, _, _, _, hf⟩ := h
  injection e1 with e1; injection e1 with e1 _; subst e1
  exact ⟨lt_of_get hh, fun hp off sp => hf off sp (by simp [hp])⟩
/-- Two runs, one after the other. -/
theorem Inv.next {w0 w w' : World} {S S' : Nat → Prop} {φ0 φ φ' : Prot} {ι ι' : Map} {H H' : Nat → Blk} (h : Inv w0 S φ0 ι φ H w) (k : Inv w S' φ ι' φ' H' w') (hS : ∀ g, S' g → S g ∨ w0.heap.size ≤ g) : Inv w0 S φ0 ι' φ' H' w' := by
  have hsz := h.keep.size
  refine ⟨k.sim, ⟨k.keep.os.trans h.keep.os, k.keep.tape.trans h.keep.tape, k.keep.output.trans h.keep.output, Nat.le_trans hsz k.keep.size, fun g hg hs => ?_⟩, fun b g c hb e => ?_, fun a ha => ?_, h.le.trans k.le⟩
  · rw [k.keep.block g (by omega) fun hs' => by
      rcases hS g hs' with h1 | h1
      · exact hs h1
      · omega]
    exact h.keep.block g hg hs
  · rcases k.own b g c hb e with h1 | h1
    · exact hS g h1
    · exact .inr (by omega)
  · rcases k.new a ha with h1 | h1 | h1
    · exact h.new a h1
    · exact .inr (hS _ h1)
    · exact .inr (.inr (by omega))
theorem Grid.frame {φ φ' : Prot} {w w' : World} {O : Nat → Prop} {g0 gU cU : Nat} {tI : TypeId} {us : List (List Int)} {arr : Array Value} {G C : Nat → Nat} (h : Grid φ w O g0 tI us gU cU arr G C)
    (hw : ∀ g, g < w.heap.size → w'.heap[g]? = w.heap[g]?) (hp : ProtLe φ φ') (hn : ∀ a, φ' a ≠ none → φ a ≠ none ∨ w.heap.size ≤ a.block) : Grid φ' w' O g0 tI us gU cU arr G C := by
  obtain ⟨t0, hb⟩ := h.box
  obtain ⟨tU, hr⟩ := h.row
  have free : ∀ g, g < w.heap.size → (∀ off sp, φ ⟨g, off, sp⟩ = none) → ∀ off sp, φ' ⟨g, off, sp⟩ = none := fun g hg hf off sp => by
    cases hx : φ' ⟨g, off, sp⟩ with
    | none => rfl
    | some v =>
      rcases hn ⟨g, off, sp⟩ (by rw [hx]; simp) with h1 | h1
      · exact absurd (hf off sp) h1
      · have h1 : w.heap.size ≤ g := h1
        omega
  refine ⟨⟨t0, (hw _ (lt_of_get hb)).trans hb⟩, ⟨tU, (hw _ (lt_of_get hr)).trans hr⟩, h.size, h.len, h.one, h.nil, fun i hi hu => ?_, h.inj, h.ne, h.lo0, h.loU, free _ (lt_of_get hb) h.free0, free _ (lt_of_get hr) h.freeU⟩
  obtain ⟨h1, h2, h3, h4, h5, h6⟩ := h.inner i hi hu
  obtain ⟨hl, hf⟩ := row_lt h3
  refine ⟨h1, h2, h3.mono (.refl _) hp (fun g c e _ => ?_) (fun g c e _ off sp hx => ?_), h4, h5, h6⟩
  · injection e with e; injection e with e1 _; subst e1; exact hw _ hl
  · injection e with e; injection e with e1 _; subst e1; exact free _ hl (hf rfl) off sp

section
variable (w0 : World) (S : Nat → Prop) (φ0 : Prot) (g0 : Nat) (tI : TypeId)
/-- The state where a grid stands. -/
def GS (us : List (List Int)) (tm : List Val) (a : Act) (w : World) : Prop :=
  ∃ φ gU cU arr G C, Inv w0 S φ0 noM φ noH w ∧ TmOk noM φ tm a.tmps ∧ a.defers = [] ∧ Grid φ w (fun g => S g ∨ w0.heap.size ≤ g) g0 tI us gU cU arr G C
abbrev KontG := Ex → List (List Int) → List Val → Prop
structure HoldsG (P : Program) (c : Code) (us : List (List Int)) (tm : List Val) (K : KontG) : Prop where
  run : ∀ (Q : Exit → Act → World → Prop) (a : Act) (w : World), GS w0 S φ0 g0 tI us tm a w → (∀ e us tm a w, K e us tm → GS w0 S φ0 g0 tI us tm a w → Q e.to a w) → c.wp P Q a w
variable {w0 S φ0 g0 tI} {P : Program} {T : TypeId → TD} {R : Nat → List Oper → Bool}
theorem HoldsG.seq {c d : Code} {us : List (List Int)} {tm : List Val} {K : KontG} (h : HoldsG w0 S φ0 g0 tI P c us tm fun e us tm => match e with
    | .normal => HoldsG w0 S φ0 g0 tI P d us tm K
    | e => K e us tm) : HoldsG w0 S φ0 g0 tI P (.seq c d) us tm K := by
  refine ⟨fun Q a w hs hQ => ?_⟩
  refine wp_seq (h.run _ a w hs fun e us tm a w hk hs => ?_)
  cases e with
  | normal => exact hk.run Q a w hs hQ
  | exit id => exact hQ (.exit id) us tm a w hk hs
  | goto l => exact hQ (.goto l) us tm a w hk hs
  | ret => exact hQ .ret us tm a w hk hs
theorem HoldsG.mono {c : Code} {us : List (List Int)} {tm : List Val} {K K' : KontG} (h : HoldsG w0 S φ0 g0 tI P c us tm K) (hk : ∀ e us tm, K e us tm → K' e us tm) : HoldsG w0 S φ0 g0 tI P c us tm K' :=
  ⟨fun Q a w hs hQ => h.run Q a w hs fun e us tm a w hk' hs => hQ e us tm a w (hk _ _ _ hk') hs⟩
theorem HoldsG.block {id : Nat} {c : Code} {us : List (List Int)} {tm : List Val} {K : KontG} (h : HoldsG w0 S φ0 g0 tI P c us tm fun e us tm => K (match e with
    | .exit i => match i == id with
      | true => .normal
      | false => .exit i
    | e => e) us tm) : HoldsG w0 S φ0 g0 tI P (.block id c) us tm K := by
  refine ⟨fun Q a w hs hQ => ?_⟩
  refine wp_block (h.run _ a w hs fun e us tm a w hk hs => ?_)
  cases e with
  | normal => exact hQ .normal us tm a w hk hs
  | exit i =>
    simp only [Ex.to, Exit.inBlock]
    cases hi : i == id with
    | true =>
      simp only [hi] at hk
      rw [beq_iff_eq] at hi; rw [if_pos hi]; exact hQ .normal us tm a w hk hs
    | false =>
      simp only [hi] at hk
      rw [beq_eq_false_iff_ne] at hi; rw [if_neg hi]; exact hQ (.exit i) us tm a w hk hs
  | goto l => exact hQ (.goto l) us tm a w hk hs
  | ret => exact hQ .ret us tm a w hk hs
theorem HoldsG.loop {c : Code} {K : KontG} {I : Nat → List (List Int) → List Val → Prop} (h : ∀ d us tm, I d us tm → HoldsG w0 S φ0 g0 tI P c us tm fun e us' tm' => match e with
    | .normal => ∃ d', d' < d ∧ I d' us' tm'
    | e => K e us' tm') : ∀ d us tm, I d us tm → HoldsG w0 S φ0 g0 tI P (.loop c) us tm K := by
  intro d us tm hI
  refine ⟨fun Q a w hs hQ => ?_⟩
  intro b k cs
  have key : ∀ d us tm, I d us tm → ∀ a w, GS w0 S φ0 g0 tI us tm a w → ∃ e a' w', Q e a' w' ∧ Arrives P (lone (b.at a (.code c :: .inLoop c :: k)) cs w) b k cs e a' w' := by
    intro d
    induction d using Nat.strongRecOn with
    | _ d ih =>
      intro us tm hI a w hs
      obtain ⟨e, a₁, w₁, hq, harr⟩ := (h d us tm hI).run (Exit.then (fun a w => ∃ d' us' tm', d' < d ∧ I d' us' tm' ∧ GS w0 S φ0 g0 tI us' tm' a w) Q) a w hs (fun e us' tm' a w hk hs => by
        cases e with
        | normal => obtain ⟨d', h1, h2⟩ := hk; exact ⟨d', us', tm', h1, h2, hs⟩
        | exit id => exact hQ (.exit id) us' tm' a w hk hs
        | goto l => exact hQ (.goto l) us' tm' a w hk hs
        | ret => exact hQ .ret us' tm' a w hk hs) b (.inLoop c :: k) cs
      cases e with
      | normal =>
        obtain ⟨d', us', tm', h1, h2, h3⟩ := hq
        obtain ⟨e₂, a₂, w₂, hq₂, harr₂⟩ := ih d' h1 us' tm' h2 a₁ w₁ h3
        exact ⟨e₂, a₂, w₂, hq₂, .of_steps (Steps.trans harr (.one step_inLoop)) harr₂⟩
      | exit id => exact ⟨_, a₁, w₁, hq, .pass (x := .inLoop c) rfl (fun _ _ => .inl (by simp)) harr⟩
      | goto l => exact ⟨_, a₁, w₁, hq, .pass (x := .inLoop c) rfl (fun _ _ => .inl (by simp)) harr⟩
      | ret => exact ⟨_, a₁, w₁, hq, .pass (x := .inLoop c) rfl (fun _ _ => .inl (by simp)) harr⟩
      | panic ch => exact ⟨_, a₁, w₁, hq, .pass (x := .inLoop c) rfl (fun _ _ => .inl (by simp)) harr⟩
      | outgrown => exact ⟨_, a₁, w₁, hq, .pass (x := .inLoop c) rfl (fun _ _ => .inl (by simp)) harr⟩
  obtain ⟨e, a', w', hq, harr⟩ := key d us tm hI a w hs
  exact ⟨e, a', w', hq, .of_steps (.one step_loop) harr⟩
/-- What the machine does where no block of its own is about. -/
theorem HoldsG.of_wp {c : Code} {us : List (List Int)} {tm : List Val} {K : KontG} (hT : TOk P T) (hm : P.follows .mixedOrders = true) (m : List Bool)
    (h : wp P T R 0 c none tm [] fun e tm hp => gcK [] m tm hp fun tm _ => K e us tm) : HoldsG w0 S φ0 g0 tI P c us tm K := by
  refine ⟨fun Q a w ⟨φ, gU, cU, arr, G, C, hI, ht, hdf, hG⟩ hQ => ?_⟩
  have hI0 : Inv w (fun _ => False) φ noM φ (getH []) w := by
    rw [getH_nil]
    exact ⟨hI.sim, .refl _ _, fun b g c hb => absurd rfl hb, fun a ha => .inl ha, .refl _⟩
  refine wp_sound (w0 := w) (S := fun _ => False) (φ0 := φ) (ι0 := noM) (n := 0) hT hm c none tm [] _ h Q a w ⟨noM, φ, hI0, ht, fun _ _ => rfl, fun _ _ => rfl, Nat.le_refl _, hdf⟩ fun e tm' hp a' w' hk hs => ?_
  obtain ⟨tm2, hp2, hk2, hs2⟩ := hs.gc (ks := []) rfl (I := fun tm hp => K e us tm ∧ hp = []) (by
    unfold gcK pickK at hk ⊢
    exact maskK_imp (fun l hl => ⟨hl, rfl⟩) tm' m hk)
  obtain ⟨hk2, rfl⟩ := hk2
  obtain ⟨ι', φ', hI', ht', hend, _, _, hdf'⟩ := hs2
  have hι : ι' = noM := by funext b; exact hend b (Nat.zero_le _)
  subst hι
  rw [getH_nil] at hI'
  refine hQ e us tm2 a' w' hk2 ⟨φ', gU, cU, arr, G, C, hI.next hI' (fun _ h => h.elim), ht', hdf', hG.frame (fun g hg => hI'.keep.block g hg fun h => h) hI'.le fun a ha => ?_⟩
  rcases hI'.new a ha with h1 | h1 | h1
  · exact .inl h1
  · exact h1.elim
  · exact .inr h1
end
end
end Go.AM

set_option linter.unusedVariables false
set_option linter.unusedSimpArgs false
set_option maxRecDepth 100000
namespace Go.AM
noncomputable section
open Go.RowKit

theorem Rel.raw_ {ι : Map} {φ : Prot} {x u : Value} (h : Rel ι φ (.raw x) u) : u = x := by
  cases h with
  | raw => rfl
  | c h => cases h
/-- Block b's pointer as it is; else what names no block. -/
def outV (b : Nat) (p : Value) : Val → Val
  | .ptr b' 0 => match b' == b with
    | true => .raw p
    | false => .und
  | v => match closed v with
    | true => v
    | false => .und
def outT (b : Nat) (p : Value) : List Val → List Bool → List Val
  | [], _ => []
  | _ :: tm, [] => .und :: outT b p tm []
  | _ :: tm, false :: m => .und :: outT b p tm m
  | v :: tm, true :: m => outV b p v :: outT b p tm m
theorem outV_rel {ι : Map} {φ : Prot} {b g c : Nat} (hb : ι b = some (g, c)) {v : Val} {u : Value} (h : Rel ι φ v u) : Rel noM φ (outV b (.pointer (some ⟨g, 0, none⟩)) v) u := by
  unfold outV
  split
  · rename_i b'
    split
    · rename_i e
      rw [beq_iff_eq] at e; subst e
      obtain ⟨g', c', e, rfl⟩ := h.ptr_
      rw [hb] at e; injection e with e; injection e with e1 _; subst e1
      exact .raw _ rfl
    · exact .und _
  · split
    · rename_i hc
      exact .c (h.closed_ hc)
    · exact .und _
theorem outT_ok {ι : Map} {φ : Prot} {b g c : Nat} (hb : ι b = some (g, c)) : ∀ (tm : List Val) (m : List Bool) (us : Nat → Value), (∀ i, i < tm.length → Rel ι φ (tm.getD i .und) (us i)) →
    (outT b (.pointer (some ⟨g, 0, none⟩)) tm m).length = tm.length ∧ ∀ i, i < tm.length → Rel noM φ ((outT b (.pointer (some ⟨g, 0, none⟩)) tm m).getD i .und) (us i)
  | [], _, _, _ => ⟨rfl, fun i hi => absurd hi (by simp)⟩
  | v :: tm, m, us, h => by
    have ih := fun m => outT_ok hb tm m (fun i => us (i + 1)) fun i hi => h (i + 1) (by simpa using hi)
    have h0 := h 0 (by simp)
    cases m with
    | nil => exact ⟨by simp [outT, (ih []).1], fun i hi => by
        cases i with
        | zero => exact .und _
        | succ i => exact (ih []).2 i (by simpa using hi)⟩
    | cons x m => cases x with
      | false => exact ⟨by simp [outT, (ih m).1], fun i hi => by
          cases i with
          | zero => exact .und _
          | succ i => exact (ih m).2 i (by simpa using hi)⟩
      | true => exact ⟨by simp [outT, (ih m).1], fun i hi => by
          cases i with
          | zero => exact outV_rel hb h0
          | succ i => exact (ih m).2 i (by simpa using hi)⟩
theorem TmOk.out {ι : Map} {φ : Prot} {b g c : Nat} (hb : ι b = some (g, c)) {tm : List Val} {us : Array Value} (h : TmOk ι φ tm us) (m : List Bool) : TmOk noM φ (outT b (.pointer (some ⟨g, 0, none⟩)) tm m) us := by
  obtain ⟨h1, h2⟩ := outT_ok hb tm m (fun i => us.getD i undef) h.rel
  exact ⟨h.len.trans h1.symm, fun i hi => h2 i (by rwa [h1] at hi)⟩
theorem TmOk.into {ι : Map} {φ : Prot} {b g c s : Nat} (hb : ι b = some (g, c)) {tm : List Val} {us : Array Value} (h : TmOk noM φ tm us) (hs : tm.getD s .und = .raw (.pointer (some ⟨g, 0, none⟩))) : TmOk ι φ (tm.set s (.ptr b 0)) us := by
  refine ⟨by rw [List.length_set]; exact h.len, fun i hi => ?_⟩
  rw [List.length_set] at hi
  rw [List.getD_eq_getElem?_getD, List.getElem?_set]
  by_cases e : s = i
  · subst e
    rw [if_pos rfl, if_pos hi]
    have h1 := h.rel s hi
    rw [hs] at h1
    rw [h1.raw_]
    exact .ptr b 0 g c hb
  · rw [if_neg e, ← List.getD_eq_getElem?_getD]
    exact (h.rel i hi).mono (fun b p e => by cases e) (.refl _)

theorem getD_set' {us : List (List Int)} {r : Nat} (hr : r < us.length) (x : List Int) (i : Nat) : (us.set r x).getD i [] = if i = r then x else us.getD i [] := by
  rw [List.getD_eq_getElem?_getD, List.getElem?_set]
  by_cases e : r = i
  · subst e; simp [hr]
  · rw [if_neg e, if_neg (fun h => e h.symm), ← List.getD_eq_getElem?_getD]

/-- How the region ends that lets one element grow. -/
structure LEnd (tI : TypeId) (us : List (List Int)) (r : Nat) (k : Int) (cs : List Val) (m : List Bool) (tmX : Value → List Val) (e : Ex) (tm : List Val) (hp : List Blk) : Prop where
  norm : e = .normal
  htm : ∀ p, outT 0 p tm m = tmX p
  h0 : getH hp 0 = .cells [.row 1 us.length]
  blk : ∃ b2, getH hp 1 = .cells (putAt cs r [.row b2 ((us.getD r []).length + 1)]) ∧ getH hp b2 = .row tI 1 ((us.getD r []).length + 1) (getL cI (us.getD r [] ++ [k])) 0

section
variable {w0 : World} {S : Nat → Prop} {φ0 : Prot} {g0 : Nat} {tI : TypeId} {P : Program} {T : TypeId → TD} {R : Nat → List Oper → Bool}
/-- the names in the piece's own run -/
def locM (g0 gU cU g c : Nat) (em : Bool) : Map := fun b => match b with
  | 0 => some (g0, 0)
  | 1 => some (gU, cU)
  | 2 => match em with
    | true => none
    | false => some (g, c)
  | _ => none
theorem locM_cases {g0 gU cU g c : Nat} {em : Bool} {b g' c' : Nat} (h : locM g0 gU cU g c em b = some (g', c')) : (b = 0 ∧ g' = g0) ∨ (b = 1 ∧ g' = gU) ∨ (b = 2 ∧ em = false ∧ g' = g) := by
  unfold locM at h
  split at h
  · injection h with h; injection h with h1 _; exact .inl ⟨rfl, h1.symm⟩
  · injection h with h; injection h with h1 _; exact .inr (.inl ⟨rfl, h1.symm⟩)
  · cases em with
    | true => cases h
    | false => injection h with h; injection h with h1 _; exact .inr (.inr ⟨rfl, rfl, h1.symm⟩)
  · cases h
/-- the cells of the grid's array, the r-th named -/
def locC (arr : Array Value) (r : Nat) (v : Val) : List Val := (arr.toList.map Val.raw).set r v
theorem locC_len (arr : Array Value) (r : Nat) (v : Val) : (locC arr r v).length = arr.size := by simp [locC]
theorem locC_at {arr : Array Value} {r : Nat} {v : Val} (hr : r < arr.size) (i : Nat) (hi : i < arr.size) : (locC arr r v).getD i .und = if i = r then v else .raw (arr.getD i undef) := by
  unfold locC
  rw [List.getD_eq_getElem?_getD, List.getElem?_set]
  by_cases e : r = i
  · subst e; simp [hr]
  · rw [if_neg e, if_neg (fun h => e h.symm), List.getElem?_map, Array.getElem?_toList, Array.getElem?_eq_getElem hi, Array.getD_eq_getD_getElem?, Array.getElem?_eq_getElem hi]; rfl

/-- The piece's own run begins. -/
theorem Grid.enter {φ : Prot} {w : World} {O : Nat → Prop} {gU cU : Nat} {us : List (List Int)} {arr : Array Value} {G C : Nat → Nat} (h : Grid φ w O g0 tI us gU cU arr G C) (hpr : ∀ a v, φ a = some v → w.cell? a = some v) {r : Nat} (hr : r < us.length)
    {em : Bool} {v : Val} {X : List Blk} (hX : (em = true ∧ us.getD r [] = [] ∧ v = .nils ∧ X = []) ∨ (em = false ∧ us.getD r [] ≠ [] ∧ v = .row 2 (us.getD r []).length ∧ X = [.row tI 1 (us.getD r []).length (getL cI (us.getD r [])) 0])) :
    Inv w (fun g => g = g0 ∨ g = gU ∨ (em = false ∧ g = G r)) φ (locM g0 gU cU (G r) (C r) em) φ (getH (.cells [.row 1 us.length] :: .cells (locC arr r v) :: X)) w := by
  obtain ⟨t0, hb⟩ := h.box
  obtain ⟨tU, hu⟩ := h.row
  have hra : r < arr.size := by have := h.len; have := h.size; omega
  have hbl : ∀ b, getH (.cells [.row 1 us.length] :: .cells (locC arr r v) :: X) b ≠ .gone → True := fun _ _ => trivial
  refine ⟨⟨fun b => ?_, fun b b' g c c' _ _ e e' => ?_, hpr⟩, .refl _ _, fun b g c _ e => .inl ?_, fun a ha => .inl ha, .refl _⟩
  · match b with
    | 0 => exact ⟨g0, 0, _, t0, rfl, hb, rfl, fun i hi => (by
        obtain rfl : i = 0 := by simpa using hi
        exact ⟨rfl, .row 1 us.length gU cU rfl h.len⟩), h.free0⟩
    | 1 => exact ⟨gU, cU, arr, tU, rfl, hu, (locC_len ..).symm, fun i hi => (by
        rw [locC_len] at hi
        refine ⟨h.one i hi, ?_⟩
        rw [locC_at hra i hi]
        by_cases e : i = r
        · subst e
          rw [if_pos rfl]
          rcases hX with ⟨_, h2, rfl, _⟩ | ⟨rfl, h2, rfl, _⟩
          · rw [h.nil i hr h2]; exact .c .nils
          · obtain ⟨k1, k2, _⟩ := h.inner i hr h2
            rw [k1]; exact .row 2 _ (G i) (C i) rfl k2
        · rw [if_neg e]; exact .raw _ (h.one i hi)), h.freeU⟩
    | 2 =>
      rcases hX with ⟨_, _, _, rfl⟩ | ⟨rfl, h2, _, rfl⟩
      · exact trivial
      · exact row_at (h.inner r hr h2).2.2.1 rfl
    | b + 3 =>
      have : getH (.cells [.row 1 us.length] :: .cells (locC arr r v) :: X) (b + 3) = .gone := by
        rcases hX with ⟨_, _, _, rfl⟩ | ⟨_, _, _, rfl⟩ <;> simp [getH]
      rw [this]; exact trivial
  · have hne := h.ne
    have hi : em = false → G r ≠ g0 ∧ G r ≠ gU := fun e2 => by
      rcases hX with ⟨e3, _⟩ | ⟨_, h2, _⟩
      · rw [e2] at e3; cases e3
      · exact ⟨(h.inner r hr h2).2.2.2.1, (h.inner r hr h2).2.2.2.2.1⟩
    rcases locM_cases e with ⟨h1, h2⟩ | ⟨h1, h2⟩ | ⟨h1, h3, h2⟩ <;> rcases locM_cases e' with ⟨k1, k2⟩ | ⟨k1, k2⟩ | ⟨k1, k3, k2⟩ <;> first
      | (have := hi h3; omega)
      | (have := hi k3; omega)
      | omega
  · rcases locM_cases e with ⟨_, h2⟩ | ⟨_, h2⟩ | ⟨_, h3, h2⟩
    · exact .inl h2
    · exact .inr (.inl h2)
    · exact .inr (.inr ⟨h3, h2⟩)

/-- The piece's own run ends. -/
theorem Grid.leave {φ φ' : Prot} {w w' : World} {O : Nat → Prop} {gU cU : Nat} {us : List (List Int)} {arr : Array Value} {G C : Nat → Nat} (h : Grid φ w O g0 tI us gU cU arr G C) {r : Nat} (hr : r < us.length) (hlo : ∀ g, w.heap.size ≤ g → O g)
    {em : Bool} (hem : em = true ∨ (em = false ∧ us.getD r [] ≠ [])) {v : Val} {ι' : Map} {hp : List Blk} {k : Int} {b2 : Nat}
    (hI : Inv w (fun g => g = g0 ∨ g = gU ∨ (em = false ∧ g = G r)) φ ι' φ' (getH hp) w') (i0 : ι' 0 = some (g0, 0)) (i1 : ι' 1 = some (gU, cU))
    (h0 : getH hp 0 = .cells [.row 1 us.length]) (h1 : getH hp 1 = .cells (putAt (locC arr r v) r [.row b2 ((us.getD r []).length + 1)])) (h2 : getH hp b2 = .row tI 1 ((us.getD r []).length + 1) (getL cI (us.getD r [] ++ [k])) 0) :
    ∃ arr' G' C', Grid φ' w' O g0 tI (us.set r (us.getD r [] ++ [k])) gU cU arr' G' C' := by
  have hra : r < arr.size := by have := h.len; have := h.size; omega
  have B0 := hI.sim.blk 0
  have B1 := hI.sim.blk 1
  have B2 := hI.sim.blk b2
  rw [h0] at B0; rw [h1] at B1; rw [h2] at B2
  obtain ⟨g, c, a0, t0, e, hh0, hs0, hr0, hf0⟩ := B0
  rw [i0] at e; injection e with e; injection e with e1 e2; subst e1
  obtain ⟨g, c, a1, t1, e, hh1, hs1, hr1, hf1⟩ := B1
  rw [i1] at e; injection e with e; injection e with e1 e2; subst e1; subst e2
  have hs0 : a0.size = 1 := hs0
  have ha0 : a0 = #[.slice (some ⟨gU, 0, none⟩) us.length cU] := by
    obtain ⟨_, h5⟩ := hr0 0 (by simp)
    obtain ⟨g', c', e, _, e3⟩ := Rel.row_ h5
    rw [i1] at e; injection e with e; injection e with e1 e2; subst e1; subst e2
    refine Array.ext (by simpa using hs0) fun i hi _ => ?_
    obtain rfl : i = 0 := by omega
    rw [Array.getD_eq_getD_getElem?, Array.getElem?_eq_getElem hi] at e3
    simpa using e3
  subst ha0
  have hfit : r + [Val.row b2 ((us.getD r []).length + 1)].length ≤ (locC arr r v).length := by rw [locC_len]; show r + 1 ≤ arr.size; omega
  rw [putAt_eq, length_splice hfit, locC_len] at hs1
  rw [putAt_eq, length_splice hfit, locC_len] at hr1
  have hcell : ∀ i, i < arr.size → plain (a1.getD i undef) = true ∧ Rel ι' φ' (if i = r then .row b2 ((us.getD r []).length + 1) else .raw (arr.getD i undef)) (a1.getD i undef) := fun i hi => by
    obtain ⟨q1, q2⟩ := hr1 i hi
    rw [getD_splice .und hfit i] at q2
    refine ⟨q1, ?_⟩
    by_cases e : i = r
    · subst e
      rw [if_pos ⟨Nat.le_refl _, by simp⟩, Nat.sub_self] at q2
      rw [if_pos rfl]; exact q2
    · rw [if_neg (by simp; omega), locC_at hra i hi, if_neg e] at q2
      rw [if_neg e]; exact q2
  have hother : ∀ i, i < arr.size → i ≠ r → a1.getD i undef = arr.getD i undef := fun i hi e => by
    have := (hcell i hi).2
    rw [if_neg e] at this
    exact this.raw_
  have hthis := (hcell r hra).2
  rw [if_pos rfl] at hthis
  obtain ⟨g2, c2, i2, hc2, e2⟩ := Rel.row_ hthis
  have hl2 : g2 < w'.heap.size ∧ ∀ off sp, φ' ⟨g2, off, sp⟩ = none := by
    obtain ⟨g', c', ar, e1, hh, _, _, _, _, _, _, _, _, hf⟩ := B2
    rw [i2] at e1; injection e1 with e1; injection e1 with e1 _; subst e1
    exact ⟨lt_of_get hh, fun off sp => hf off sp (by omega)⟩
  have hg2 : getH hp b2 ≠ .gone := by rw [h2]; simp
  have hg0 : getH hp 0 ≠ .gone := by rw [h0]; simp
  have hg1 : getH hp 1 ≠ .gone := by rw [h1]; simp
  have n0 : g2 ≠ g0 := fun e => by
    have := hI.sim.inj b2 0 g2 c2 0 hg2 hg0 i2 (by rw [i0, e])
    subst this; rw [h0] at h2; cases h2
  have nU : g2 ≠ gU := fun e => by
    have := hI.sim.inj b2 1 g2 c2 cU hg2 hg1 i2 (by rw [i1, e])
    subst this; rw [h1] at h2; cases h2
  have hown := hI.own b2 g2 c2 hg2 i2
  have hgr : g2 = G r ∧ us.getD r [] ≠ [] ∨ w.heap.size ≤ g2 := by
    rcases hown with (h3 | h3 | ⟨h3, h4⟩) | h3
    · exact absurd h3 n0
    · exact absurd h3 nU
    · rcases hem with h5 | ⟨_, h5⟩
      · rw [h3] at h5; cases h5
      · exact .inl ⟨h4, h5⟩
    · exact .inr h3
  have getS := fun i => getD_set' hr (us.getD r [] ++ [k]) i
  have hus : em = false → us.getD r [] ≠ [] := fun e => by
    rcases hem with h5 | ⟨_, h5⟩
    · rw [e] at h5; cases h5
    · exact h5
  have hlast : us.getD r [] ++ [k] ≠ [] := by simp
  have hlen2 : (us.getD r [] ++ [k]).length = (us.getD r []).length + 1 := by simp
  have old : ∀ i, i < us.length → us.getD i [] ≠ [] → i ≠ r → w'.heap[G i]? = w.heap[G i]? ∧ (∀ off sp, φ' ⟨G i, off, sp⟩ = none) ∧ g2 ≠ G i := fun i hi hu hir => by
    obtain ⟨_, _, k3, k4, k5, _⟩ := h.inner i hi hu
    obtain ⟨hl, hf⟩ := row_lt k3
    have hS : ¬ (G i = g0 ∨ G i = gU ∨ (em = false ∧ G i = G r)) := by
      rintro (e | e | ⟨e, e3⟩)
      · exact k4 e
      · exact k5 e
      · exact hir (h.inj i r hi hr hu (hus e) e3)
    refine ⟨hI.keep.block _ hl hS, fun off sp => ?_, fun e => ?_⟩
    · cases hx : φ' ⟨G i, off, sp⟩ with
      | none => rfl
      | some z =>
        rcases hI.new ⟨G i, off, sp⟩ (by rw [hx]; simp) with h6 | h6 | h6
        · exact absurd (hf rfl off sp) h6
        · exact absurd h6 hS
        · have h6 : w.heap.size ≤ G i := h6
          omega
    · rcases hgr with ⟨h6, h7⟩ | h6
      · exact hir (h.inj i r hi hr hu h7 (by omega))
      · omega
  refine ⟨a1, fun i => if i = r then g2 else G i, fun i => if i = r then c2 else C i, ⟨t0, by rw [List.length_set]; exact hh0⟩, ⟨t1, hh1⟩, hs1.trans h.size, by rw [List.length_set]; exact h.len, fun i hi => (hcell i (by omega)).1, fun i hi hu => ?_, fun i hi hu => ?_, fun i j hi hj hu hv e => ?_, h.ne, h.lo0, h.loU, hf0, hf1⟩
  · rw [List.length_set] at hi
    rw [getS] at hu
    by_cases e : i = r
    · rw [if_pos e] at hu; exact absurd hu hlast
    · rw [if_neg e] at hu
      rw [hother i (by have := h.len; have := h.size; omega) e]
      exact h.nil i hi hu
  · rw [List.length_set] at hi
    rw [getS] at hu ⊢
    by_cases e : i = r
    · subst e
      simp only [if_true, hlen2]
      refine ⟨e2, hc2, row_at B2 i2.symm, n0, nU, ?_⟩
      rcases hgr with ⟨h6, h7⟩ | h6
      · rw [h6]; exact (h.inner i hr h7).2.2.2.2.2
      · exact hlo _ h6
    · rw [if_neg e] at hu
      simp only [if_neg e]
      obtain ⟨k1, k2, k3, k4, k5, k6⟩ := h.inner i hi hu
      obtain ⟨o1, o2, _⟩ := old i hi hu e
      refine ⟨by rw [hother i (by have := h.len; have := h.size; omega) e]; exact k1, k2, k3.mono (.refl _) hI.le (fun g c e9 _ => ?_) (fun g c e9 _ off sp hx => ?_), k4, k5, k6⟩
      · injection e9 with e9; injection e9 with e9 _; subst e9; exact o1
      · injection e9 with e9; injection e9 with e9 _; subst e9; exact o2 off sp
  · rw [List.length_set] at hi hj
    rw [getS] at hu hv
    by_cases e1 : i = r <;> by_cases e2 : j = r
    · omega
    · simp only [if_pos e1, if_neg e2] at e hv
      exact absurd e (old j hj hv e2).2.2
    · simp only [if_neg e1, if_pos e2] at e hu
      exact absurd e.symm (old i hi hu e1).2.2
    · simp only [if_neg e1, if_neg e2] at e hu hv
      exact h.inj i j hi hj hu hv e
/-- ONE ELEMENT GROWS. -/
theorem HoldsG.grow {c : Code} {us : List (List Int)} {tm : List Val} {r s : Nat} {k : Int} {tmX : Value → List Val} (hT : TOk P T) (hm : P.follows .mixedOrders = true) (hr : r < us.length) (m : List Bool)
    (h5 : tm.getD s .und = .raw (.pointer (some ⟨g0, 0, none⟩)))
    (hnil : us.getD r [] = [] → ∀ cs : List Val, us.length ≤ cs.length → cellAt cs r = .nils → wp P T R 2 c none (tm.set s (.ptr 0 0)) [.cells [.row 1 us.length], .cells cs] (LEnd tI us r k cs m tmX))
    (hrow : us.getD r [] ≠ [] → ∀ cs : List Val, us.length ≤ cs.length → cellAt cs r = .row 2 (us.getD r []).length → wp P T R 2 c none (tm.set s (.ptr 0 0)) [.cells [.row 1 us.length], .cells cs, .row tI 1 (us.getD r []).length (getL cI (us.getD r [])) 0] (LEnd tI us r k cs m tmX)) :
    HoldsG w0 S φ0 g0 tI P c us tm fun e us' tm' => e = .normal ∧ us' = us.set r (us.getD r [] ++ [k]) ∧ tm' = tmX (.pointer (some ⟨g0, 0, none⟩)) := by
  refine ⟨fun Q a w ⟨φ, gU, cU, arr, G, C, hI, ht, hdf, hG⟩ hQ => ?_⟩
  have hra : r < arr.size := by have := hG.len; have := hG.size; omega
  have hlc : ∀ v, us.length ≤ (locC arr r v).length := fun v => by rw [locC_len]; have := hG.len; have := hG.size; omega
  have hca : ∀ v, cellAt (locC arr r v) r = v := fun v => by rw [cellAt_eq, locC_at hra r hra, if_pos rfl]
  have main : ∀ (em : Bool) (v : Val) (X : List Blk), ((em = true ∧ us.getD r [] = [] ∧ v = .nils ∧ X = []) ∨ (em = false ∧ us.getD r [] ≠ [] ∧ v = .row 2 (us.getD r []).length ∧ X = [.row tI 1 (us.getD r []).length (getL cI (us.getD r [])) 0])) →
      wp P T R 2 c none (tm.set s (.ptr 0 0)) (.cells [.row 1 us.length] :: .cells (locC arr r v) :: X) (LEnd tI us r k (locC arr r v) m tmX) → c.wp P Q a w := by
    intro em v X hX hwp
    have hE := hG.enter hI.sim.prot hr hX
    have hem : em = true ∨ (em = false ∧ us.getD r [] ≠ []) := by
      rcases hX with ⟨e, _⟩ | ⟨e, e2, _⟩
      · exact .inl e
      · exact .inr ⟨e, e2⟩
    refine wp_sound hT hm c none _ _ _ hwp Q a w ⟨_, φ, hE, ht.into (c := 0) rfl h5, fun b hb => ?_, fun _ _ => rfl, by simp, hdf⟩ fun e tm' hp a' w' hk hs => ?_
    · rcases hX with ⟨rfl, _, _, rfl⟩ | ⟨rfl, _, _, rfl⟩
      · match b with
        | 0 | 1 => simp at hb
        | 2 => rfl
        | b + 3 => rfl
      · match b with
        | 0 | 1 | 2 => simp at hb
        | b + 3 => rfl
    · obtain ⟨ι', φ', hI', ht', hend, hh, _, hdf'⟩ := hs
      obtain ⟨rfl, htm, h0, b2, h1, h2⟩ := hk
      have i0 := hh 0 (by omega)
      have i1 := hh 1 (by omega)
      obtain ⟨arr', G', C', hG'⟩ := hG.leave hr (fun g hg => .inr (Nat.le_trans hI.keep.size hg)) hem hI' i0 i1 h0 h1 h2
      have hI2 := hI.next hI' (fun g hg => by
        rcases hg with e | e | ⟨e, e2⟩
        · rw [e]; exact hG.lo0
        · rw [e]; exact hG.loU
        · rcases hem with e3 | ⟨_, e3⟩
          · rw [e] at e3; cases e3
          · rw [e2]; exact (hG.inner r hr e3).2.2.2.2.2)
      refine hQ .normal _ _ a' w' ⟨rfl, rfl, rfl⟩ ⟨φ', gU, cU, arr', G', C', ?_, ?_, hdf', hG'⟩
      · exact ⟨⟨fun b => trivial, fun b b' g c c' hb => absurd rfl hb, hI2.sim.prot⟩, hI2.keep, fun b g c hb => absurd rfl hb, hI2.new, hI2.le⟩
      · rw [← htm]
        exact ht'.out i0 m
  by_cases hu : us.getD r [] = []
  · exact main true .nils [] (.inl ⟨rfl, hu, rfl, rfl⟩) (hnil hu _ (hlc _) (hca _))
  · exact main false _ _ (.inr ⟨rfl, hu, rfl, rfl⟩) (hrow hu _ (hlc _) (hca _))
end
end
end Go.AM

set_option linter.unusedVariables false
set_option linter.unusedSimpArgs false
set_option maxRecDepth 100000
namespace Go.AM
noncomputable section
open Go.RowKit
section
variable {w0 w : World} {S : Nat → Prop} {φ0 : Prot} {ι0 : Map} {g0 : Nat} {tI : TypeId} {P : Program}
theorem St.grid {tm : List Val} {hp : List Blk} {a : Act} {n b0 b1 M : Nat} {tR : TypeId} (hs : St w0 S φ0 ι0 n tm hp a w) (h0 : getH hp b0 = .row tR 1 M (fun _ => [.nils]) 0) (h1 : getH hp b1 = .cells [.row b0 M]) (m : List Bool) :
    ∃ g0, GS w0 S φ0 g0 tI (List.replicate M []) (outT b1 (.pointer (some ⟨g0, 0, none⟩)) tm m) a w := by
  obtain ⟨ι, φ, hI, ht, hend, hh, hn, hdf⟩ := hs
  have B0 := hI.sim.blk b0
  have B1 := hI.sim.blk b1
  rw [h0] at B0; rw [h1] at B1
  obtain ⟨gU, cU, arr, i0, hhU, _, hsz, hM, hc, _, hl, hr, hone, hfU⟩ := B0
  obtain ⟨g0, c0, a0, t0, i1, hh0, hs0, hr0, hf0⟩ := B1
  have hg0 : getH hp b0 ≠ .gone := by rw [h0]; simp
  have hg1 : getH hp b1 ≠ .gone := by rw [h1]; simp
  have ha0 : a0 = #[.slice (some ⟨gU, 0, none⟩) M cU] := by
    obtain ⟨_, h5⟩ := hr0 0 (by simp)
    obtain ⟨g', c', e, _, e3⟩ := Rel.row_ h5
    rw [i0] at e; injection e with e; injection e with e1 e2; subst e1; subst e2
    have hs0 : a0.size = 1 := hs0
    refine Array.ext (by simpa using hs0) fun i hi _ => ?_
    obtain rfl : i = 0 := by omega
    rw [Array.getD_eq_getD_getElem?, Array.getElem?_eq_getElem hi] at e3
    simpa using e3
  subst ha0
  have hz : ∀ i, (List.replicate M ([] : List Int)).getD i [] = [] := fun i => by
    rw [List.getD_eq_getElem?_getD, List.getElem?_replicate]; split <;> rfl
  refine ⟨g0, φ, gU, cU, arr, fun _ => 0, fun _ => 0, ?_, ht.out i1 m, hdf, ⟨t0, by rw [List.length_replicate]; exact hh0⟩, ⟨tR, hhU⟩, by rw [hsz, Nat.mul_one], by rw [List.length_replicate]; exact hM, hone, fun i hi _ => ?_, fun i hi hu => absurd (hz i) hu, fun i j hi hj hu => absurd (hz i) hu, fun e => ?_, hI.own _ _ _ hg1 i1, hI.own _ _ _ hg0 i0, hf0, fun off sp => hfU off sp (by omega)⟩
  · exact ⟨⟨fun b => trivial, fun b b' g c c' hb => absurd rfl hb, hI.sim.prot⟩, hI.keep, fun b g c hb => absurd rfl hb, hI.new, hI.le⟩
  · rw [List.length_replicate] at hi
    have := hr i 0 hi (by omega)
    rw [Nat.mul_one, Nat.add_zero] at this
    exact (Rel.c this : Rel noM φ _ _).nils_
  · subst e
    have := hI.sim.inj b1 b0 _ _ _ hg1 hg0 i1 i0
    subst this
    rw [h0] at h1; cases h1

/-- an element of what is told -/
def cRw (r : List Int) : List Val := [eL 1 cI r]
open Classical in
/-- the grid's memory, to be written no more -/
def protG (φ : Prot) (w : World) (us : List (List Int)) (gU : Nat) (G : Nat → Nat) : Prot := fun q =>
  if q.spot = none ∧ ((q.block = gU ∧ q.off < us.length) ∨ ∃ i, i < us.length ∧ us.getD i [] ≠ [] ∧ q.block = G i ∧ q.off < (us.getD i []).length) then w.cell? q else φ q
theorem getL_one_at {α : Type} {enc : α → List Val} {l : List α} {i : Nat} {x : α} (h : l[i]? = some x) : getL enc l i = enc x := by unfold getL; rw [h]
theorem GS.finish {us : List (List Int)} {tm : List Val} {a : Act} {s : Nat} (h : GS w0 S φ0 g0 tI us tm a w) (h5 : tm.getD s .und = .raw (.pointer (some ⟨g0, 0, none⟩))) : St w0 S φ0 ι0 0 (tm.set s (.ptr 0 0)) [.cells [eL 1 cRw us]] a w := by
  obtain ⟨φ, gU, cU, arr, G, C, hI, ht, hdf, hG⟩ := h
  obtain ⟨t0, hb⟩ := hG.box
  obtain ⟨tU, hu⟩ := hG.row
  have hsz := hG.size
  have hlen := hG.len
  -- an inner array's cells
  have hin : ∀ i, i < us.length → us.getD i [] ≠ [] → ∃ ar, w.heap[G i]? = some (.cells ar tI (0, 0)) ∧ (us.getD i []).length ≤ ar.size ∧ (∀ j, j < (us.getD i []).length → plain (ar.getD j undef) = true ∧ RelC φ ((getL cI (us.getD i []) j).getD 0 .und) (ar.getD j undef)) ∧
      ∀ off sp, φ ⟨G i, off, sp⟩ = none := fun i hi hne => by
    obtain ⟨_, _, ⟨g, c, ar, e, hh, _, hs, hnc, _, _, hl, hr, h1, hf⟩, _⟩ := hG.inner i hi hne
    injection e with e; injection e with e1 e2; subst e1; subst e2
    refine ⟨ar, hh, by omega, fun j hj => ⟨h1 j (by omega), ?_⟩, fun off sp => hf off sp (by omega)⟩
    have := hr j 0 hj (by omega)
    rwa [Nat.mul_one, Nat.add_zero] at this
  have hold : ∀ q z, φ q = some z → w.cell? q = some z := hI.sim.prot
  have hle : ProtLe φ (protG φ w us gU G) := fun q z hq => by
    unfold protG
    split
    · exact hold q z hq
    · exact hq
  have hprot : ∀ q z, protG φ w us gU G q = some z → w.cell? q = some z := fun q z hq => by
    unfold protG at hq
    split at hq
    · exact hq
    · exact hold q z hq
  have hφU : ∀ i, i < us.length → protG φ w us gU G ((⟨gU, 0, none⟩ : Addr).add i) = some (arr.getD i undef) := fun i hi => by
    unfold protG
    rw [add_eq, Nat.zero_add, if_pos ⟨rfl, .inl ⟨rfl, hi⟩⟩]
    simp only [World.cell?, hu]
    rw [Array.getD_eq_getD_getElem?, Array.getElem?_eq_getElem (by omega)]
    simp
  have hrel : ∀ i, i < us.length → RelC (protG φ w us gU G) (eL 1 cI (us.getD i [])) (arr.getD i undef) := fun i hi => by
    by_cases hne : us.getD i [] = []
    · rw [hG.nil i hi hne, hne]; exact .extNil 1 _
    · obtain ⟨k1, k2, _⟩ := hG.inner i hi hne
      obtain ⟨ar, hh, hl, hc, _⟩ := hin i hi hne
      rw [k1]
      refine .ext 1 _ _ _ _ (fun j _ => ar.getD j undef) k2 (fun j hj => ?_) (fun j l hj hl' => ?_) (fun j l hj hl' => (hc j hj).1) fun j l hj hl' => ?_
      · rw [getL_one_at (List.getElem?_eq_getElem hj)]; rfl
      · obtain rfl : l = 0 := by omega
        unfold protG
        rw [add_eq, Nat.zero_add, Nat.mul_one, Nat.add_zero, if_pos ⟨rfl, .inr ⟨i, hi, hne, rfl, hj⟩⟩]
        simp only [World.cell?, hh]
        rw [Array.getD_eq_getD_getElem?, Array.getElem?_eq_getElem (by omega)]
        simp
      · obtain rfl : l = 0 := by omega
        exact (hc j hj).2.mono hle
  refine ⟨fun b => if b = 0 then some (g0, 0) else none, protG φ w us gU G, ⟨⟨fun b => ?_, fun b b' g c c' hb1 hb2 e e' => ?_, hprot⟩, hI.keep, fun b g c hb1 e => ?_, fun q hq => ?_, hI.le.trans hle⟩, (ht.mono (.refl _) hle).into (c := 0) (by simp) h5, fun b hb1 => ?_, fun b hb1 => absurd hb1 (Nat.not_lt_zero b), Nat.zero_le _, hdf⟩
  · match b with
    | 0 =>
      refine ⟨g0, 0, _, t0, by simp, hb, rfl, fun i hi => ?_, fun off sp => ?_⟩
      · obtain rfl : i = 0 := by simpa using hi
        refine ⟨rfl, .c (.ext 1 us.length (getL cRw us) ⟨gU, 0, none⟩ cU (fun i _ => arr.getD i undef) hlen (fun i hi => ?_) (fun i j hi hj => ?_) (fun i j hi hj => hG.one i (by omega)) fun i j hi hj => ?_)⟩
        · rw [getL_one_at (List.getElem?_eq_getElem hi)]; rfl
        · obtain rfl : j = 0 := by omega
          rw [Nat.mul_one, Nat.add_zero]; exact hφU i hi
        · obtain rfl : j = 0 := by omega
          have := hrel i hi
          rw [List.getD_eq_getElem?_getD, List.getElem?_eq_getElem hi] at this
          rw [getL_one_at (List.getElem?_eq_getElem hi)]
          exact this
      · unfold protG
        rw [if_neg]
        · exact hG.free0 off sp
        · rintro ⟨_, ⟨e, _⟩ | ⟨i, hi, hne, e, _⟩⟩
          · exact hG.ne e
          · exact (hG.inner i hi hne).2.2.2.1 e.symm
    | b + 1 => exact trivial
  · split at e
    · split at e'
      · omega
      · cases e'
    · cases e
  · split at e
    · injection e with e; injection e with e1 _; subst e1; exact hG.lo0
    · cases e
  · unfold protG at hq
    split at hq
    · rename_i hh
      obtain ⟨_, ⟨e, _⟩ | ⟨i, hi, hne, e, _⟩⟩ := hh
      · rw [e]; exact .inr hG.loU
      · rw [e]; exact .inr (hG.inner i hi hne).2.2.2.2.2
    · exact hI.new q hq
  · have hb1 : 1 ≤ b := hb1
    simp only [if_neg (show ¬ b = 0 by omega)]

/-- A PIECE OF CODE THAT FILLS A GRID. -/
theorem Holds.grid {c : Code} {tm : List Val} {M s : Nat} {tR : TypeId} {us : List (List Int)} (m : List Bool) (tmE : Value → List Val) (tmF : List Val)
    (h : ∀ (w0 : World) (S : Nat → Prop) (φ0 : Prot) (g0 : Nat), HoldsG w0 S φ0 g0 tI P c (List.replicate M []) (outT 1 (.pointer (some ⟨g0, 0, none⟩)) tm m) fun e us' tm' => e = .normal ∧ us' = us ∧ tm' = tmE (.pointer (some ⟨g0, 0, none⟩)))
    (h5 : ∀ p, (tmE p).getD s .und = .raw p) (hF : ∀ p, (tmE p).set s (.ptr 0 0) = tmF) {K : Kont} (hK : K .normal tmF [.cells [eL 1 cRw us]]) : Holds P 0 c tm [.row tR 1 M (fun _ => [.nils]) 0, .cells [.row 0 M]] K := by
  refine ⟨fun w0 S φ0 ι0 Q a w hs hQ => ?_⟩
  obtain ⟨g0, hg⟩ := hs.grid (b0 := 0) (b1 := 1) (tI := tI) rfl rfl m
  refine (h w0 S φ0 g0).run Q a w hg fun e us' tm' a' w' hk hs' => ?_
  obtain ⟨rfl, rfl, rfl⟩ := hk
  have := hs'.finish (ι0 := ι0) (h5 _)
  rw [hF] at this
  exact hQ .normal _ _ a' w' hK this
end
end
end Go.AM

