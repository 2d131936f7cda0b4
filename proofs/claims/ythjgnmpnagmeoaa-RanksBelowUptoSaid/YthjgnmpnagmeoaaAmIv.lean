/- RanksBelow's law: who uses an item, and what is below these, is what is below it. -/
import Derived.Test.YthjgnmpnagmeoaaAmIs
import Derived.Test.YthjgnmpnagmeoaaAmIk
import Derived.Test.YthjgnmpnagmeoaaAmIt
set_option linter.unusedVariables false
set_option linter.unusedSimpArgs false
set_option maxRecDepth 100000
namespace Go.AM
def putKs (ks : List Int) (es : List (Int × Unit)) : List (Int × Unit) := ks.foldl (fun es k => aput k () es) es
noncomputable def wantF (g : List (List Int)) (us : List Int) (es : List (Int × Unit)) : List (Int × Unit) := us.foldl (fun es u => putKs (belowF g u) (aput u () es)) es
theorem keys_put {k x : Int} {es : List (Int × Unit)} : x ∈ keysZ (aput k () es) ↔ x ∈ keysZ es ∨ x = k := by
  by_cases h : k ∈ keysZ es
  · rw [keysZ_put, if_pos h]
    exact ⟨.inl, fun h2 => h2.elim id fun e => e ▸ h⟩
  · rw [keysZ_put, if_neg h]; simp
theorem keys_put_nd {k : Int} {es : List (Int × Unit)} (h : (keysZ es).Nodup) : (keysZ (aput k () es)).Nodup := by
  rw [keysZ_put]
  split
  · exact h
  · rename_i hn
    refine List.nodup_append.2 ⟨h, by simp, fun a ha b hb => ?_⟩
    have : b = k := by simpa using hb
    subst this
    exact fun e => hn (e ▸ ha)
theorem putKs_iff : ∀ {ks : List Int} {es : List (Int × Unit)}, ((keysZ es).Nodup → (keysZ (putKs ks es)).Nodup) ∧ ∀ x, x ∈ keysZ (putKs ks es) ↔ x ∈ keysZ es ∨ x ∈ ks
  | [], es => ⟨id, fun x => by simp [putKs]⟩
  | k :: ks, es => by
    obtain ⟨h1, h2⟩ := putKs_iff (ks := ks) (es := aput k () es)
    refine ⟨fun h => h1 (keys_put_nd h), fun x => (h2 x).trans ?_⟩
    rw [keys_put, List.mem_cons, or_assoc]
theorem wantF_iff {g : List (List Int)} : ∀ {us : List Int} {es : List (Int × Unit)}, ((keysZ es).Nodup → (keysZ (wantF g us es)).Nodup) ∧ ∀ x, x ∈ keysZ (wantF g us es) ↔ x ∈ keysZ es ∨ ∃ u ∈ us, x = u ∨ x ∈ belowF g u
  | [], es => ⟨id, fun x => by simp [wantF]⟩
  | u :: us, es => by
    obtain ⟨h1, h2⟩ := wantF_iff (g := g) (us := us) (es := putKs (belowF g u) (aput u () es))
    obtain ⟨p1, p2⟩ := putKs_iff (ks := belowF g u) (es := aput u () es)
    refine ⟨fun h => h1 (p1 (keys_put_nd h)), fun x => (h2 x).trans ?_⟩
    rw [p2, keys_put]
    constructor
    · rintro (((h | h) | h) | ⟨v, hv, h⟩)
      · exact .inl h
      · exact .inr ⟨u, List.mem_cons_self .., .inl h⟩
      · exact .inr ⟨u, List.mem_cons_self .., .inr h⟩
      · exact .inr ⟨v, List.mem_cons_of_mem _ hv, h⟩
    · rintro (h | ⟨v, hv, h⟩)
      · exact .inl (.inl (.inl h))
      · rcases List.mem_cons.1 hv with rfl | hv
        · rcases h with h | h
          · exact .inl (.inl (.inr h))
          · exact .inl (.inr h)
        · exact .inr ⟨v, hv, h⟩
/-- THE LAW -/
theorem below_law {l : List Se} (n : Int) : (∀ b ∈ belowF (graphF l) n, b ∈ keysZ (wantF (graphF l) (usersF l n) [])) ∧ (belowF (graphF l) n).length = (wantF (graphF l) (usersF l n) []).length := by
  have hgl := graphF_len l
  have hus : ∀ u, u ∈ usersF l n ↔ ∃ (i : Nat) (h : i < (graphF l).length), u = (i : Int) ∧ n ∈ (graphF l)[i] := fun u => by
    unfold usersF
    rw [List.mem_filter, mem_zeroTo, decide_eq_true_eq]
    constructor
    · rintro ⟨h1, h2⟩
      refine ⟨u.toNat, by omega, by omega, ?_⟩
      rw [graphF_at, Int.toNat_of_nonneg h1.1]; exact h2
    · rintro ⟨i, h, rfl, hm⟩
      rw [graphF_at] at hm
      exact ⟨by omega, hm⟩
  obtain ⟨w1, w2⟩ := wantF_iff (g := graphF l) (us := usersF l n) (es := [])
  have hnd := w1 (by simp [keysZ])
  have hiff : ∀ x, x ∈ keysZ (wantF (graphF l) (usersF l n) []) ↔ x ∈ belowF (graphF l) n := fun x => by
    rw [w2]
    constructor
    · rintro (h | ⟨u, hu, h⟩)
      · simp [keysZ] at h
      · obtain ⟨i, hi, rfl, hm⟩ := (hus u).1 hu
        have hm' := hm
        rw [graphF_at] at hm'
        have hnr := readsF_lt hm'
        have hn : 0 ≤ n ∧ n < ((graphF l).length : Int) := by omega
        rw [mem_belowF hn]
        have hone : Below (graphF l) n (i : Int) := .one hi hm
        rcases h with rfl | h
        · exact hone
        · rw [mem_belowF (by omega)] at h
          induction h with
          | @one k hk hj => exact .more hk hj hone
          | @more k j hk hj _ ih => exact .more hk hj ih
    · intro h
      by_cases hn : 0 ≤ n ∧ n < ((graphF l).length : Int)
      · rw [mem_belowF hn] at h
        refine .inr ?_
        induction h with
        | @one k hk hm => exact ⟨k, (hus _).2 ⟨k, hk, rfl, hm⟩, .inl rfl⟩
        | @more k j hk hj _ ih =>
          obtain ⟨u, hu, h⟩ := ih
          obtain ⟨i, hi, rfl, hm⟩ := (hus u).1 hu
          refine ⟨_, hu, .inr ?_⟩
          rw [mem_belowF (by omega)]
          rcases h with rfl | h
          · exact .one hk hj
          · rw [mem_belowF (by omega)] at h
            exact .more hk hj h
      · have : belowF (graphF l) n = [] := if_neg hn
        rw [this] at h; cases h
  refine ⟨fun b hb => (hiff b).2 hb, ?_⟩
  have hb2 : (belowF (graphF l) n).Nodup := List.nodup_iff_pairwise_ne.2 ((belowF_lt _ _).imp fun h => by omega)
  have h1 := hb2.length_le_of_subset fun x hx => (hiff x).2 hx
  have h2 := hnd.length_le_of_subset fun x hx => (hiff x).1 hx
  have h3 : (keysZ (wantF (graphF l) (usersF l n) [])).length = (wantF (graphF l) (usersF l n) []).length := by simp [keysZ]
  omega
end Go.AM

set_option linter.unusedVariables false
set_option linter.unusedSimpArgs false
set_option maxRecDepth 100000
namespace Go.Proofs.Ythjgnmpnagmeoaa
open Go.AM
theorem nan_ret (x : Int) : Ret Try.prog 61 [.int .i64 x] [] (.bool false) [] := by
  have f1 : (x != x) = false := by simp
  refine ret_of_body atNone tok mixed Try.func61 (by kernel_rfl) rfl (k := 6) (rs := [.tmp 2]) (by kernel_rfl) (by kernel_rfl) ?_
  (conv => whnf) <;> repeat' (first | (rw [f1]; conv => whnf) | ((first | refine wN ?_ | refine wNc ?_ | refine wA ?_ | refine wB ?_ | refine wC ?_ | refine wD ?_ | refine vA ?_ | refine vB ?_ | refine vC ?_ | refine vD ?_ | refine uA ?_ | refine uB ?_ | refine uC ?_ | refine uD ?_); conv => whnf) | ((first | apply Pick.dec | apply Pick.beq | apply Cond.dec | apply Cond.beq | apply Cond.nd | apply Pick.nd | apply Pick.mk | apply Cond.mk) <;> intro h <;> conv => whnf))
  exact End.mk rfl rfl
theorem less_ret (x y : Int) : Ret Try.prog 51 [.int .i64 x, .int .i64 y] [] (.bool (decide (x < y))) [] := by
  have h1 := nan_ret x
  have h2 := nan_ret y
  refine ret_of_body atNone tok mixed Try.func51 (by kernel_rfl) rfl (k := 17) (rs := [.tmp 4]) (by kernel_rfl) (by kernel_rfl) ?_
  (conv => whnf) <;> repeat' (first | ((first | refine wN ?_ | refine wNc ?_ | refine wA ?_ | refine wB ?_ | refine wC ?_ | refine wD ?_ | refine Called.mk _ _ (h1) ?_ | refine Called.mk _ _ (h2) ?_ | refine vA ?_ | refine vB ?_ | refine vC ?_ | refine vD ?_ | refine uA ?_ | refine uB ?_ | refine uC ?_ | refine uD ?_); conv => whnf) | ((first | apply Pick.dec | apply Pick.beq | apply Cond.dec | apply Cond.beq | apply Cond.nd | apply Pick.nd | apply Pick.mk | apply Cond.mk) <;> intro h <;> conv => whnf))
  exact End.mk rfl rfl
set_option maxHeartbeats 4000000 in
theorem isSorted_ret (l : List Int) (hl : l.length ≤ 1048576) (hs : l.Pairwise (· < ·)) : Ret Try.prog 29 [eL 1 cI l] [] (.bool true) [] := by
  have e0 : IntKind.i64.wrap (((l.length : Nat) : Int) - 1) = ((l.length : Nat) : Int) - 1 := wi64_id (by omega) (by omega)
  refine ret_of_body atNone tok mixed Try.func29 (by kernel_rfl) rfl (k := 21) (rs := [.tmp 2]) (by kernel_rfl) (by kernel_rfl) ?_
  (conv => whnf) <;> repeat' (first | (rw [e0]; conv => whnf) | ((first | refine wN ?_ | refine wNc ?_ | refine wA ?_ | refine wB ?_ | refine wC ?_ | refine wD ?_ | refine vA ?_ | refine vB ?_ | refine vC ?_ | refine vD ?_ | refine uA ?_ | refine uB ?_ | refine uC ?_ | refine uD ?_); conv => whnf) | ((first | apply Pick.dec | apply Pick.beq | apply Cond.dec | apply Cond.beq | apply Cond.nd | apply Pick.nd | apply Pick.mk | apply Cond.mk) <;> intro h <;> conv => whnf))
  intro J jw js
  have turn : ∀ (k : Nat), k < l.length ∨ k = 0 → J [eL 1 cI l, .und, .und, .int .i64 (k : Int), .und, .und, .und, .und, .und, .und, .und, .und, .und, .und, .und, .und, .und, .und, .und, .und, .und] [] := by
    intro k
    induction k with
    | zero =>
      intro _
      apply js
      (conv => whnf) <;> repeat' (first | ((first | refine wN ?_ | refine wNc ?_ | refine wA ?_ | refine wB ?_ | refine wC ?_ | refine wD ?_ | refine vA ?_ | refine vB ?_ | refine vC ?_ | refine vD ?_ | refine uA ?_ | refine uB ?_ | refine uC ?_ | refine uD ?_); conv => whnf) | ((first | apply Pick.dec | apply Pick.beq | apply Cond.dec | apply Cond.beq | apply Cond.nd | apply Pick.nd | apply Pick.mk | apply Cond.mk) <;> intro h <;> conv => whnf))
      exact End.mk rfl rfl
    | succ k im =>
      intro hk
      have hk : k + 1 < l.length := by omega
      have im := im (.inl (by omega))
      have g1 : getL cI l (Int.toNat ((k + 1 : Nat) : Int)) = cI l[k + 1] := by rw [Int.toNat_natCast]; exact getL_at (List.getElem?_eq_getElem hk)
      have g2 : getL cI l (Int.toNat (k : Int)) = cI (l[k]'(by omega)) := by rw [Int.toNat_natCast]; exact getL_at (List.getElem?_eq_getElem (by omega))
      have e1 : IntKind.i64.wrap (((k + 1 : Nat) : Int) - 1) = (k : Int) := by rw [wi64_id (by omega) (by omega)]; omega
      have hlt := List.pairwise_iff_getElem.1 hs k (k + 1) (by omega) hk (by omega)
      have hC := less_ret l[k + 1] (l[k]'(by omega))
      generalize l[k + 1] = a at *
      generalize l[k]'(by omega) = b at *
      rw [decide_eq_false (by omega)] at hC
      apply js
      (conv => whnf) <;> repeat' (first | ((conv => arg 1; whnf); rw [g1]; conv => whnf) | (rw [e1]; conv => whnf) | ((conv => arg 1; whnf); rw [g2]; conv => whnf) | ((first | refine wN ?_ | refine wNc ?_ | refine wA ?_ | refine wB ?_ | refine wC ?_ | refine wD ?_ | refine Called.mk _ _ (hC) ?_ | refine vA ?_ | refine vB ?_ | refine vC ?_ | refine vD ?_ | refine uA ?_ | refine uB ?_ | refine uC ?_ | refine uD ?_); conv => whnf) | ((first | apply Pick.dec | apply Pick.beq | apply Cond.dec | apply Cond.beq | apply Cond.nd | apply Pick.nd | apply Pick.mk | apply Cond.mk) <;> intro h <;> conv => whnf))
      try rw [e1]
      apply jw [] [true, false, false, true] _ _ rfl
      exact im
  rcases Nat.eq_zero_or_pos l.length with h0 | h0
  · apply jw [] [true, false, false, true] _ _ rfl
    apply js
    (conv => whnf) <;> repeat' (first | ((first | refine wN ?_ | refine wNc ?_ | refine wA ?_ | refine wB ?_ | refine wC ?_ | refine wD ?_ | refine vA ?_ | refine vB ?_ | refine vC ?_ | refine vD ?_ | refine uA ?_ | refine uB ?_ | refine uC ?_ | refine uD ?_); conv => whnf) | ((first | apply Pick.dec | apply Pick.beq | apply Cond.dec | apply Cond.beq | apply Cond.nd | apply Pick.nd | apply Pick.mk | apply Cond.mk) <;> intro h <;> conv => whnf))
    exact End.mk rfl rfl
  · have := turn (l.length - 1) (.inl (by omega))
    have e : ((l.length - 1 : Nat) : Int) = ((l.length : Nat) : Int) - 1 := by omega
    rw [e] at this
    apply jw [] [true, false, false, true] _ _ rfl
    exact this
end Go.Proofs.Ythjgnmpnagmeoaa

set_option linter.unusedVariables false
set_option linter.unusedSimpArgs false
set_option maxRecDepth 100000
namespace Go.Proofs.Ythjgnmpnagmeoaa
open Go.AM
theorem want_take {g : List (List Int)} {us : List Int} {i : Nat} (h : i < us.length) : wantF g (us.take (i + 1)) [] = putKs (belowF g us[i]) (aput us[i] () (wantF g (us.take i) [])) := by
  unfold wantF
  rw [List.take_succ_eq_append_getElem h, List.foldl_append]; rfl
theorem put_take {ks : List Int} {es : List (Int × Unit)} {j : Nat} (h : j < ks.length) : putKs (ks.take (j + 1)) es = aput ks[j] () (putKs (ks.take j) es) := by
  unfold putKs
  rw [List.take_succ_eq_append_getElem h, List.foldl_append]; rfl
set_option maxHeartbeats 4000000 in
theorem ranksBelow_of (hBelow : BelowC) (l : List Se) (n : Int) (hn : n ≤ 9223372036854775807) (hl : l.length ≤ maxLen) (hok : ∀ s ∈ l, s.Ok) (hm : manyN l ≤ 1048576) (hc : ∀ s ∈ l, ∀ i ∈ s.items, cntX i.expr ≤ 1048576) : Ret Try.prog 6 [eL 5 cSe l, .int .i64 n] [] (.bool true) [] := by
  have hS := small_ret l hl hok
  have hV := live_ret
  by_cases hb : smallB l = true
  · have hL : LOk l := ⟨smallB_len hb, hm, hok, hc⟩
    have k1 := users_ret l hL n
    have k2 := hBelow l hL n hn
    have hB := fun (u : Int) (hu : u ≤ 9223372036854775807) => hBelow l hL u hu
    have hbl := fun u => belowF_len l u hm
    have hul := usersF_len l n hm
    obtain ⟨hw1, hw2⟩ := below_law (l := l) n
    have k3 := isSorted_ret (belowF (graphF l) n) (hbl n) (belowF_lt _ _)
    have hur : ∀ u ∈ usersF l n, u ≤ 9223372036854775807 := fun u hu => by
      unfold usersF at hu
      have := mem_zeroTo.1 (List.mem_filter.1 hu).1
      omega
    rw [hb] at hS
    clear hBelow hok hc
    generalize graphF l = g at *
    generalize usersF l n = us at *
    have hbn := hbl n
    generalize hgot : belowF g n = got at *
    refine ret_of_body atCalls tok mixed Try.func6 (by kernel_rfl) rfl (k := 67) (rs := [.tmp 4]) (by kernel_rfl) (by kernel_rfl) ?_
    (conv => whnf) <;> repeat' (first | ((first | refine wN ?_ | refine wNc ?_ | refine wA ?_ | refine wB ?_ | refine wC ?_ | refine wD ?_ | refine Called.mk _ _ (hS) ?_ | refine Called.mk _ _ (hV) ?_ | refine Called.mk _ _ (k1) ?_ | refine vA ?_ | refine vB ?_ | refine vC ?_ | refine vD ?_ | refine uA ?_ | refine uB ?_ | refine uC ?_ | refine uD ?_); conv => whnf) | ((first | apply Pick.dec | apply Pick.beq | apply Cond.dec | apply Cond.beq | apply Cond.nd | apply Pick.nd | apply Pick.mk | apply Cond.mk) <;> intro h <;> conv => whnf))
    intro J jw js
    have turn : ∀ (d i : Nat), i + d = us.length → J [eL 5 cSe l, .int .i64 n, .und, .und, .und, .map 0, .und, .und, .und, .und, .und, .und, .und, .und, .und, .und, .und, .und, .und, .und, .und, .und, .und, .und, eL 1 cI us, .int .i64 (us.length : Int), .int .i64 (i : Int), .und, .und, .und, .und, .und, .und, .und, .und, .und, .und, .und, .und, .und, .und, .und, .und, .und, .und, .und, .und, .und, .und, .und, .und, .und, .und, .und, .und, .und, .und, .und, .und, .und, .und, .und, .und, .und, .und, .und, .und] [setZ (wantF g (us.take i) [])] := by
      intro d
      induction d with
      | zero =>
        intro i hi
        obtain rfl : i = us.length := by omega
        rw [List.take_length]
        have hF : ∀ b ∈ got, mfind [.i .i64 b] (encM kI cT (wantF g us [])) = some [.bool true] := fun b hb => by
          rw [show mfind [.i .i64 b] (encM kI cT (wantF g us [])) = (aget b (wantF g us [])).map cT from mfind_enc kI_inj b _]
          have := aget_some.2 (hw1 b hb)
          cases ha : aget b (wantF g us []) with
          | none => rw [ha] at this; cases this
          | some v => rfl
        have hel : (encM kI cT (wantF g us [])).length = got.length := by rw [hw2]; simp [encM]
        generalize wantF g us [] = es at *
        generalize hes : encM kI cT es = me at *
        apply js
        conv => whnf
        refine Cond.ff (decF (by omega)) ?_
        (conv => whnf) <;> repeat' (first | ((first | refine wN ?_ | refine wNc ?_ | refine wA ?_ | refine wB ?_ | refine wC ?_ | refine wD ?_ | refine Called.mk _ _ (k2) ?_ | refine vA ?_ | refine vB ?_ | refine vC ?_ | refine vD ?_ | refine uA ?_ | refine uB ?_ | refine uC ?_ | refine uD ?_); conv => whnf) | ((first | apply Pick.dec | apply Pick.beq | apply Cond.dec | apply Cond.beq | apply Cond.nd | apply Pick.nd | apply Pick.mk | apply Cond.mk) <;> intro h <;> conv => whnf))
        intro K kw ks
        have look : ∀ (e j : Nat), j + e = got.length → K [.und, .und, .und, .und, .und, .map 0, .und, .und, .und, .und, eL 1 cI got, .und, .und, .und, .und, .und, .und, .und, .und, .und, .und, .und, .und, .und, .und, .und, .und, .und, .und, .und, .und, .und, .und, .und, .und, .und, .und, .und, .und, .und, .und, .und, .und, .und, .und, .und, .und, eL 1 cI got, .int .i64 (got.length : Int), .int .i64 (j : Int), .und, .und, .und, .und, .und, .und, .und, .und, .und, .und, .und, .und, .und, .und, .und, .und, .und] [.map false false [.i .i64] me] := by
          intro e
          induction e with
          | zero =>
            intro j hj
            obtain rfl : j = got.length := by omega
            apply ks
            conv => whnf
            refine Cond.ff (decF (by omega)) ?_
            (conv => whnf) <;> repeat' (first | (rw [hel]; conv => whnf) | ((first | refine wN ?_ | refine wNc ?_ | refine wA ?_ | refine wB ?_ | refine wC ?_ | refine wD ?_ | refine Called.mk _ _ (k3) ?_ | refine vA ?_ | refine vB ?_ | refine vC ?_ | refine vD ?_ | refine uA ?_ | refine uB ?_ | refine uC ?_ | refine uD ?_); conv => whnf) | ((first | apply Pick.dec | apply Pick.beq | apply Cond.dec | apply Cond.beq | apply Cond.nd | apply Pick.nd | apply Pick.mk | apply Cond.mk) <;> intro h <;> conv => whnf))
            all_goals first | exact End.mk rfl rfl | (exfalso; omega) | (exfalso; simp_all)
          | succ e ie =>
            intro j hj
            have hjl : j < got.length := by omega
            have gj : getL cI got (Int.toNat (j : Int)) = cI got[j] := by rw [Int.toNat_natCast]; exact getL_at (List.getElem?_eq_getElem hjl)
            have e2 : IntKind.i64.wrap ((j : Int) + 1) = ((j + 1 : Nat) : Int) := by rw [wi64_id (by omega) (by omega)]; omega
            have ie := ie (j + 1) (by omega)
            have hFj := hF _ (List.getElem_mem hjl)
            generalize got[j] = b at *
            apply ks
            conv => whnf
            refine Cond.tt (decT (by omega)) ?_
            (conv => whnf) <;> repeat' (first | ((conv => arg 1; whnf); rw [gj]; conv => whnf) | ((conv => arg 1; whnf); rw [hFj]; conv => whnf) | ((first | refine wN ?_ | refine wNc ?_ | refine wA ?_ | refine wB ?_ | refine wC ?_ | refine wD ?_ | refine vA ?_ | refine vB ?_ | refine vC ?_ | refine vD ?_ | refine uA ?_ | refine uB ?_ | refine uC ?_ | refine uD ?_); conv => whnf) | ((first | apply Pick.dec | apply Pick.beq | apply Cond.dec | apply Cond.beq | apply Cond.nd | apply Pick.nd | apply Pick.mk | apply Cond.mk) <;> intro h <;> conv => whnf))
            rw [e2]
            apply kw [0] [false, false, false, false, false, true, false, false, false, false, true, false, false, false, false, false, false, false, false, false, false, false, false, false, false, false, false, false, false, false, false, false, false, false, false, false, false, false, false, false, false, false, false, false, false, false, false, true, true, true] _ _ rfl
            exact ie
        apply kw [0] [false, false, false, false, false, true, false, false, false, false, true, false, false, false, false, false, false, false, false, false, false, false, false, false, false, false, false, false, false, false, false, false, false, false, false, false, false, false, false, false, false, false, false, false, false, false, false, true, true, true] _ _ rfl
        have hlk := look got.length 0 (by omega)
        rw [← hes] at hlk
        exact hlk
      | succ d im =>
        intro i hi
        have hil : i < us.length := by omega
        have gi : getL cI us (Int.toNat (i : Int)) = cI us[i] := by rw [Int.toNat_natCast]; exact getL_at (List.getElem?_eq_getElem hil)
        have e1 : IntKind.i64.wrap ((i : Int) + 1) = ((i + 1 : Nat) : Int) := by rw [wi64_id (by omega) (by omega)]; omega
        have im := im (i + 1) (by omega)
        rw [want_take hil] at im
        have hBu := hB us[i] (hur _ (List.getElem_mem hil))
        have hbu := hbl us[i]
        generalize us[i] = u at *
        generalize wantF g (us.take i) [] = es at *
        have hP : mput [.i .i64 u] [.bool true] (encM kI cT es) = encM kI cT (aput u () es) := mput_enc (ev := cT) kI_inj u () es
        generalize aput u () es = e0 at *
        generalize belowF g u = bs at *
        apply js
        conv => whnf
        refine Cond.tt (decT (by omega)) ?_
        (conv => whnf) <;> repeat' (first | ((conv => arg 1; whnf); rw [gi]; conv => whnf) | (rw [hP]; conv => whnf) | ((first | refine wN ?_ | refine wNc ?_ | refine wA ?_ | refine wB ?_ | refine wC ?_ | refine wD ?_ | refine Called.mk _ _ (hBu) ?_ | refine vA ?_ | refine vB ?_ | refine vC ?_ | refine vD ?_ | refine uA ?_ | refine uB ?_ | refine uC ?_ | refine uD ?_); conv => whnf) | ((first | apply Pick.dec | apply Pick.beq | apply Cond.dec | apply Cond.beq | apply Cond.nd | apply Pick.nd | apply Pick.mk | apply Cond.mk) <;> intro h <;> conv => whnf))
        intro K kw ks
        have inner : ∀ (f j : Nat), j + f = bs.length → K [eL 5 cSe l, .int .i64 n, .und, .und, .und, .map 0, .und, .und, .und, .und, .und, .und, .und, .und, .und, .und, .und, .und, .und, .und, .und, .und, .und, .und, eL 1 cI us, .int .i64 (us.length : Int), .int .i64 (i : Int), .und, .und, .und, .und, .und, .und, .und, eL 1 cI bs, .int .i64 (bs.length : Int), .int .i64 (j : Int), .und, .und, .und, .und, .und, .und, .und, .und, .und, .und, .und, .und, .und, .und, .und, .und, .und, .und, .und, .und, .und, .und, .und, .und, .und, .und, .und, .und, .und, .und] [setZ (putKs (bs.take j) e0)] := by
          intro f
          induction f with
          | zero =>
            intro j hj
            obtain rfl : j = bs.length := by omega
            rw [List.take_length]
            apply ks
            conv => whnf
            refine Cond.ff (decF (by omega)) ?_
            (conv => whnf) <;> repeat' (first | ((first | refine wN ?_ | refine wNc ?_ | refine wA ?_ | refine wB ?_ | refine wC ?_ | refine wD ?_ | refine vA ?_ | refine vB ?_ | refine vC ?_ | refine vD ?_ | refine uA ?_ | refine uB ?_ | refine uC ?_ | refine uD ?_); conv => whnf) | ((first | apply Pick.dec | apply Pick.beq | apply Cond.dec | apply Cond.beq | apply Cond.nd | apply Pick.nd | apply Pick.mk | apply Cond.mk) <;> intro h <;> conv => whnf))
            rw [e1]
            apply jw [0] [true, true, false, false, false, true, false, false, false, false, false, false, false, false, false, false, false, false, false, false, false, false, false, false, true, true, true] _ _ rfl
            exact im
          | succ f ig =>
            intro j hj
            have hjl : j < bs.length := by omega
            have gj : getL cI bs (Int.toNat (j : Int)) = cI bs[j] := by rw [Int.toNat_natCast]; exact getL_at (List.getElem?_eq_getElem hjl)
            have e2 : IntKind.i64.wrap ((j : Int) + 1) = ((j + 1 : Nat) : Int) := by rw [wi64_id (by omega) (by omega)]; omega
            have ig := ig (j + 1) (by omega)
            rw [put_take hjl] at ig
            generalize bs[j] = b at *
            generalize putKs (bs.take j) e0 = e3 at *
            have hP2 : mput [.i .i64 b] [.bool true] (encM kI cT e3) = encM kI cT (aput b () e3) := mput_enc (ev := cT) kI_inj b () e3
            apply ks
            conv => whnf
            refine Cond.tt (decT (by omega)) ?_
            (conv => whnf) <;> repeat' (first | ((conv => arg 1; whnf); rw [gj]; conv => whnf) | ((first | refine wN ?_ | refine wNc ?_ | refine wA ?_ | refine wB ?_ | refine wC ?_ | refine wD ?_ | refine vA ?_ | refine vB ?_ | refine vC ?_ | refine vD ?_ | refine uA ?_ | refine uB ?_ | refine uC ?_ | refine uD ?_); conv => whnf) | ((first | apply Pick.dec | apply Pick.beq | apply Cond.dec | apply Cond.beq | apply Cond.nd | apply Pick.nd | apply Pick.mk | apply Cond.mk) <;> intro h <;> conv => whnf))
            rw [e2, hP2]
            apply kw [0] [true, true, false, false, false, true, false, false, false, false, false, false, false, false, false, false, false, false, false, false, false, false, false, false, true, true, true, false, false, false, false, false, false, false, true, true, true] _ _ rfl
            exact ig
        try rw [hP]
        apply kw [0] [true, true, false, false, false, true, false, false, false, false, false, false, false, false, false, false, false, false, false, false, false, false, false, false, true, true, true, false, false, false, false, false, false, false, true, true, true] _ _ rfl
        exact inner bs.length 0 (by omega)
    apply jw [0] [true, true, false, false, false, true, false, false, false, false, false, false, false, false, false, false, false, false, false, false, false, false, false, false, true, true, true] _ _ rfl
    exact turn us.length 0 (by omega)
  · have hb : smallB l = false := by simpa using hb
    rw [hb] at hS
    refine ret_of_body atCalls tok mixed Try.func6 (by kernel_rfl) rfl (k := 67) (rs := [.tmp 4]) (by kernel_rfl) (by kernel_rfl) ?_
    (conv => whnf) <;> repeat' (first | ((first | refine wN ?_ | refine wNc ?_ | refine wA ?_ | refine wB ?_ | refine wC ?_ | refine wD ?_ | refine Called.mk _ _ (hS) ?_ | refine Called.mk _ _ (hV) ?_ | refine vA ?_ | refine vB ?_ | refine vC ?_ | refine vD ?_ | refine uA ?_ | refine uB ?_ | refine uC ?_ | refine uD ?_); conv => whnf) | ((first | apply Pick.dec | apply Pick.beq | apply Cond.dec | apply Cond.beq | apply Cond.nd | apply Pick.nd | apply Pick.mk | apply Cond.mk) <;> intro h <;> conv => whnf))
    all_goals exact End.mk rfl rfl
end Go.Proofs.Ythjgnmpnagmeoaa

