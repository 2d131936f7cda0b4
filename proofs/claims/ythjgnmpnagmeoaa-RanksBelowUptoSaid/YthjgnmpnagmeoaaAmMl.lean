/- The stable sort's parts: symMerge, the walk (the left side is not the longer). -/
import Derived.Test.YthjgnmpnagmeoaaAmIn
set_option linter.unusedVariables false
set_option linter.unusedSimpArgs false
set_option maxRecDepth 100000
namespace Go.Proofs.Ythjgnmpnagmeoaa
open Go.AM
set_option maxHeartbeats 16000000 in
theorem sym_lo (rr D0 DF : List Int) (a u v w N : Nat) (hb : N ≤ 1048576) (hN : a + u + v ≤ N) (hu : 1 < u) (hv : 1 < v) (hmid : (a + (a + u + v)) / 2 = a + w) (hc : u ≤ w) (fu fv : Nat → Int) (gU' : ∀ t, t < u → D0.getD (a + t) 0 = fu t) (gV' : ∀ t, t < v → D0.getD (a + u + t) 0 = fv t)
    (elU : ∀ t, t < u → 0 ≤ fu t ∧ fu t < (rr.length : Int)) (elV : ∀ t, t < v → 0 ≤ fv t ∧ fv t < (rr.length : Int)) (rk : ∀ x ∈ rr, -1 ≤ x ∧ x ≤ 1048576) (mU : ∀ i j, i ≤ j → j < u → rkAt rr (fu i) ≤ rkAt rr (fu j)) (mV : ∀ i j, i ≤ j → j < v → rkAt rr (fv i) ≤ rkAt rr (fv j))
    (tail : ∀ i, w - v ≤ i → i ≤ w → i ≤ u → (∀ t, w - v ≤ t → t < i → rkAt rr (fu t) ≤ rkAt rr (fv (w - 1 - t))) → (∀ t, i ≤ t → t < w → t < u → rkAt rr (fv (w - 1 - t)) < rkAt rr (fu t)) → Left rr D0 DF a u v w N i) :
    Ret Try.prog 63 [.row 0 N, .int .i64 ((a : Nat) : Int), .int .i64 ((a + u : Nat) : Int), .int .i64 ((a + u + v : Nat) : Int), cmV] [.row 3 1 N (gU D0) 0, .cells [eL 1 cI rr]] (.tup []) [.row 3 1 N (gU DF) 0, .cells [eL 1 cI rr]] := by
  have c1 : IntKind.i64.wrap (((a + u : Nat) : Int) - ((a : Nat) : Int)) = ((u : Nat) : Int) := by rw [wi64_id (by omega) (by omega)]; omega
  have c2 : IntKind.i64.wrap (((a + u + v : Nat) : Int) - ((a + u : Nat) : Int)) = ((v : Nat) : Int) := by rw [wi64_id (by omega) (by omega)]; omega
  have c3 : IntKind.i64.wrap (((a : Nat) : Int) + ((a + u + v : Nat) : Int)) = ((a + (a + u + v) : Nat) : Int) := by rw [wi64_id (by omega) (by omega)]; omega
  have c4 := mid_eq (a + (a + u + v)) (by omega)
  rw [hmid] at c4
  have c5 : IntKind.i64.wrap (((a + w : Nat) : Int) + ((a + u : Nat) : Int)) = ((a + w + (a + u) : Nat) : Int) := by rw [wi64_id (by omega) (by omega)]; omega
  have c7 : IntKind.i64.wrap (((a + w + (a + u) : Nat) : Int) - 1) = ((a + w + (a + u) - 1 : Nat) : Int) := by rw [wi64_id (by omega) (by omega)]; omega

  refine ret_of_body atNone tok mixed Try.func63 (by kernel_rfl) rfl (k := 220) (rs := []) (by kernel_rfl) (by kernel_rfl) ?_
  (conv => whnf) <;> repeat' (first | (rw [c1]; conv => whnf) | (rw [c2]; conv => whnf) | (rw [c3]; conv => whnf) | (rw [c4]; conv => whnf) | (rw [c5]; conv => whnf) | (rw [c7]; conv => whnf) | ((first | refine wN ?_ | refine wNc ?_ | refine wA ?_ | refine wB ?_ | refine wC ?_ | refine wD ?_ | refine vA ?_ | refine vB ?_ | refine vC ?_ | refine vD ?_ | refine uA ?_ | refine uB ?_ | refine uC ?_ | refine uD ?_); conv => whnf) | ((first | apply Pick.dec | apply Pick.beq | apply Cond.dec | apply Cond.beq | apply Cond.nd | apply Pick.nd | apply Pick.mk | apply Cond.mk) <;> intro h <;> conv => whnf))
  intro J jw js
  have search : ∀ (f p q : Nat), q - p ≤ f → p ≤ q → w - v ≤ p → q ≤ w → q ≤ u → (∀ t, w - v ≤ t → t < p → rkAt rr (fu t) ≤ rkAt rr (fv (w - 1 - t))) → (∀ t, q ≤ t → t < w → t < u → rkAt rr (fv (w - 1 - t)) < rkAt rr (fu t)) →
      J [.row 0 N, .int .i64 ((a : Nat) : Int), .int .i64 ((a + u : Nat) : Int), .int .i64 ((a + u + v : Nat) : Int), cmV, .und, .und, .und, .und, .und, .und, .und, .und, .und, .und, .und, .und, .und, .int .i64 ((a + w : Nat) : Int), .int .i64 ((a + w + (a + u) : Nat) : Int), .int .i64 ((a + p : Nat) : Int), .int .i64 ((a + q : Nat) : Int), .int .i64 ((a + w + (a + u) - 1 : Nat) : Int), .und, .und, .und, .und, .und, .und, .und, .und, .und, .und, .und, .und, .und, .und, .und, .und, .und, .und, .und, .und, .und, .und, .und, .und, .und, .und, .und, .und, .und, .und, .und, .und, .und, .und, .und, .und, .und, .und, .und, .und, .und, .und, .und, .und, .und, .und, .und, .und, .und, .und, .und, .und, .und, .und, .und, .und, .und, .und, .und, .und, .und, .und, .und, .und, .und, .und, .und, .und, .und, .und, .und, .und, .und, .und, .und, .und, .und, .und, .und, .und, .und, .und, .und, .und, .und, .und, .und, .und, .und, .und, .und, .und, .und, .und, .und, .und, .und, .und, .und, .und, .und, .und, .und, .und, .und, .und, .und, .und, .und, .und, .und, .und, .und, .und, .und, .und, .und, .und, .und, .und, .und, .und, .und, .und, .und, .und, .und, .und, .und, .und, .und, .und, .und, .und, .und, .und, .und, .und, .und, .und, .und, .und, .und, .und, .und, .und, .und, .und, .und, .und, .und, .und, .und, .und, .und, .und, .und, .und, .und, .und, .und, .und, .und, .und, .und, .und, .und, .und, .und, .und, .und, .und, .und, .und, .und, .und, .und, .und, .und, .und, .und, .und, .und, .und, .und, .und, .und, .und, .und, .und, .und, .und, .und, .und, .und, .und, .und] [.row 3 1 N (gU D0) 0, .cells [eL 1 cI rr]] := by
    have place : ∀ (p : Nat), w - v ≤ p → p ≤ w → p ≤ u → (∀ t, w - v ≤ t → t < p → rkAt rr (fu t) ≤ rkAt rr (fv (w - 1 - t))) → (∀ t, p ≤ t → t < w → t < u → rkAt rr (fv (w - 1 - t)) < rkAt rr (fu t)) →
        J [.row 0 N, .int .i64 ((a : Nat) : Int), .int .i64 ((a + u : Nat) : Int), .int .i64 ((a + u + v : Nat) : Int), cmV, .und, .und, .und, .und, .und, .und, .und, .und, .und, .und, .und, .und, .und, .int .i64 ((a + w : Nat) : Int), .int .i64 ((a + w + (a + u) : Nat) : Int), .int .i64 ((a + p : Nat) : Int), .int .i64 ((a + p : Nat) : Int), .int .i64 ((a + w + (a + u) - 1 : Nat) : Int), .und, .und, .und, .und, .und, .und, .und, .und, .und, .und, .und, .und, .und, .und, .und, .und, .und, .und, .und, .und, .und, .und, .und, .und, .und, .und, .und, .und, .und, .und, .und, .und, .und, .und, .und, .und, .und, .und, .und, .und, .und, .und, .und, .und, .und, .und, .und, .und, .und, .und, .und, .und, .und, .und, .und, .und, .und, .und, .und, .und, .und, .und, .und, .und, .und, .und, .und, .und, .und, .und, .und, .und, .und, .und, .und, .und, .und, .und, .und, .und, .und, .und, .und, .und, .und, .und, .und, .und, .und, .und, .und, .und, .und, .und, .und, .und, .und, .und, .und, .und, .und, .und, .und, .und, .und, .und, .und, .und, .und, .und, .und, .und, .und, .und, .und, .und, .und, .und, .und, .und, .und, .und, .und, .und, .und, .und, .und, .und, .und, .und, .und, .und, .und, .und, .und, .und, .und, .und, .und, .und, .und, .und, .und, .und, .und, .und, .und, .und, .und, .und, .und, .und, .und, .und, .und, .und, .und, .und, .und, .und, .und, .und, .und, .und, .und, .und, .und, .und, .und, .und, .und, .und, .und, .und, .und, .und, .und, .und, .und, .und, .und, .und, .und, .und, .und, .und, .und, .und, .und, .und, .und, .und, .und, .und, .und, .und, .und] [.row 3 1 N (gU D0) 0, .cells [eL 1 cI rr]] := by
      intro i h1 h2 h3 hA hB
      obtain ⟨D1, D2, n0, r0, n1, r1, n2, r2⟩ := tail i h1 h2 h3 hA hB
      have ee : IntKind.i64.wrap (((a + w + (a + u) : Nat) : Int) - ((a + i : Nat) : Int)) = ((a + u + (w - i) : Nat) : Int) := by rw [wi64_id (by omega) (by omega)]; omega
      have hw : w ≤ v ∨ w < u := by omega
      clear tail hA hB jw c1 c2 c3 c4 c5 c7 hmid gU' gV' elU elV rk mU mV
      apply js
      by_cases k0 : i < u ∧ 0 < w - i
      · have r0 := r0 k0
        obtain ⟨k0a, k0b⟩ := k0
        by_cases k1 : 0 < i ∧ i < w
        · have r1 := r1 k1
          obtain ⟨k1a, k1b⟩ := k1
          by_cases k2 : i < u ∧ w - i < v
          · have r2 := r2 k2
            obtain ⟨k2a, k2b⟩ := k2
            (conv => whnf) <;> repeat' (first | (rw [ee]; conv => whnf) | (refine NeedC.own (CalledH.mk [0, 1] _ _ rfl (by simp) r0 ?_); conv => whnf) | (refine NeedC.own (CalledH.mk [0, 1] _ _ rfl (by simp) r1 ?_); conv => whnf) | (refine NeedC.own (CalledH.mk [0, 1] _ _ rfl (by simp) r2 ?_); conv => whnf) | ((first | refine wN ?_ | refine wNc ?_ | refine wA ?_ | refine wB ?_ | refine wC ?_ | refine wD ?_ | refine vA ?_ | refine vB ?_ | refine vC ?_ | refine vD ?_ | refine uA ?_ | refine uB ?_ | refine uC ?_ | refine uD ?_); conv => whnf) | ((first | apply Pick.dec | apply Pick.beq | apply Cond.dec | apply Cond.beq | apply Cond.nd | apply Pick.nd | apply Pick.mk | apply Cond.mk) <;> intro h <;> conv => whnf))
            exact EndH.mk [0, 1] rfl rfl rfl
          · obtain rfl := n2 k2
            exfalso; omega
        · obtain rfl := n1 k1
          by_cases k2 : i < u ∧ w - i < v
          · have r2 := r2 k2
            obtain ⟨k2a, k2b⟩ := k2
            (conv => whnf) <;> repeat' (first | (rw [ee]; conv => whnf) | (refine NeedC.own (CalledH.mk [0, 1] _ _ rfl (by simp) r0 ?_); conv => whnf) | (refine NeedC.own (CalledH.mk [0, 1] _ _ rfl (by simp) r2 ?_); conv => whnf) | ((first | refine wN ?_ | refine wNc ?_ | refine wA ?_ | refine wB ?_ | refine wC ?_ | refine wD ?_ | refine vA ?_ | refine vB ?_ | refine vC ?_ | refine vD ?_ | refine uA ?_ | refine uB ?_ | refine uC ?_ | refine uD ?_); conv => whnf) | ((first | apply Pick.dec | apply Pick.beq | apply Cond.dec | apply Cond.beq | apply Cond.nd | apply Pick.nd | apply Pick.mk | apply Cond.mk) <;> intro h <;> conv => whnf))
            all_goals exact EndH.mk [0, 1] rfl rfl rfl
          · obtain rfl := n2 k2
            (conv => whnf) <;> repeat' (first | (rw [ee]; conv => whnf) | (refine NeedC.own (CalledH.mk [0, 1] _ _ rfl (by simp) r0 ?_); conv => whnf) | ((first | refine wN ?_ | refine wNc ?_ | refine wA ?_ | refine wB ?_ | refine wC ?_ | refine wD ?_ | refine vA ?_ | refine vB ?_ | refine vC ?_ | refine vD ?_ | refine uA ?_ | refine uB ?_ | refine uC ?_ | refine uD ?_); conv => whnf) | ((first | apply Pick.dec | apply Pick.beq | apply Cond.dec | apply Cond.beq | apply Cond.nd | apply Pick.nd | apply Pick.mk | apply Cond.mk) <;> intro h <;> conv => whnf))
            all_goals exact EndH.mk [0, 1] rfl rfl rfl
      · obtain rfl := n0 k0
        by_cases k1 : 0 < i ∧ i < w
        · have r1 := r1 k1
          obtain ⟨k1a, k1b⟩ := k1
          by_cases k2 : i < u ∧ w - i < v
          · have r2 := r2 k2
            obtain ⟨k2a, k2b⟩ := k2
            exfalso; omega
          · obtain rfl := n2 k2
            (conv => whnf) <;> repeat' (first | (rw [ee]; conv => whnf) | (refine NeedC.own (CalledH.mk [0, 1] _ _ rfl (by simp) r1 ?_); conv => whnf) | ((first | refine wN ?_ | refine wNc ?_ | refine wA ?_ | refine wB ?_ | refine wC ?_ | refine wD ?_ | refine vA ?_ | refine vB ?_ | refine vC ?_ | refine vD ?_ | refine uA ?_ | refine uB ?_ | refine uC ?_ | refine uD ?_); conv => whnf) | ((first | apply Pick.dec | apply Pick.beq | apply Cond.dec | apply Cond.beq | apply Cond.nd | apply Pick.nd | apply Pick.mk | apply Cond.mk) <;> intro h <;> conv => whnf))
            all_goals exact EndH.mk [0, 1] rfl rfl rfl
        · obtain rfl := n1 k1
          by_cases k2 : i < u ∧ w - i < v
          · have r2 := r2 k2
            obtain ⟨k2a, k2b⟩ := k2
            exfalso; omega
          · obtain rfl := n2 k2
            (conv => whnf) <;> repeat' (first | (rw [ee]; conv => whnf) | ((first | refine wN ?_ | refine wNc ?_ | refine wA ?_ | refine wB ?_ | refine wC ?_ | refine wD ?_ | refine vA ?_ | refine vB ?_ | refine vC ?_ | refine vD ?_ | refine uA ?_ | refine uB ?_ | refine uC ?_ | refine uD ?_); conv => whnf) | ((first | apply Pick.dec | apply Pick.beq | apply Cond.dec | apply Cond.beq | apply Cond.nd | apply Pick.nd | apply Pick.mk | apply Cond.mk) <;> intro h <;> conv => whnf))
            all_goals exact EndH.mk [0, 1] rfl rfl rfl
    clear tail
    intro f
    induction f with
    | zero =>
      intro p q hf hpq hlo hqw hqU hA hB
      obtain rfl : p = q := by omega
      exact place p hlo hqw hqU hA hB
    | succ f ih =>
      intro p q hf hpq hlo hqw hqU hA hB
      by_cases h : p < q
      · have e1 : IntKind.i64.wrap (((a + p : Nat) : Int) + ((a + q : Nat) : Int)) = ((a + p + (a + q) : Nat) : Int) := by rw [wi64_id (by omega) (by omega)]; omega
        have e2 := mid_eq (a + p + (a + q)) (by omega)
        obtain ⟨c, hc⟩ : ∃ c, c = (p + q) / 2 := ⟨_, rfl⟩
        have e3 : (a + p + (a + q)) / 2 = a + c := by omega
        rw [e3] at e2
        have hcU : c < u := by omega
        have hcV : w - 1 - c < v := by omega
        have e4 : IntKind.i64.wrap (((a + w + (a + u) - 1 : Nat) : Int) - ((a + c : Nat) : Int)) = ((a + u + (w - 1 - c) : Nat) : Int) := by rw [wi64_id (by omega) (by omega)]; omega
        have gy := gU' c hcU
        have gx := gV' (w - 1 - c) hcV
        have hC := cmp_ret rr (fv (w - 1 - c)) (fu c) (elV _ hcV) (elU _ hcU) rk
        have hlo2 := fun (t : Nat) (ht : t ≤ c) (h2 : w - v ≤ t) => And.intro (mU t c ht hcU) (mV (w - 1 - c) (w - 1 - t) (by omega) (by omega))
        have hhi2 := fun (t : Nat) (ht : c ≤ t) (h2 : t < u) => And.intro (mU c t ht h2) (mV (w - 1 - t) (w - 1 - c) (by omega) hcV)
        have t1 := toNat_n (a + c)
        have t2 := toNat_n (a + u + (w - 1 - c))
        by_cases hlt2 : rkAt rr (fv (w - 1 - c)) < rkAt rr (fu c)
        · have ih := ih p c (by omega) (by omega) hlo (by omega) (by omega) hA (fun t ht htw htU => by have := hhi2 t ht htU; omega)
          have hneg : rkAt rr (fv (w - 1 - c)) - rkAt rr (fu c) < 0 := by omega
          generalize rkAt rr (fv (w - 1 - c)) - rkAt rr (fu c) = cv at *
          generalize fu c = uu at *
          generalize fv (w - 1 - c) = vv at *
          apply js
          (conv => whnf) <;> repeat' (first | (rw [e1]; conv => whnf) | (rw [e2]; conv => whnf) | (rw [e4]; conv => whnf) | (rw [t1]; conv => whnf) | (rw [t2]; conv => whnf) | (rw [gx]; conv => whnf) | (rw [gy]; conv => whnf) | (refine CalledH.mk [1] _ _ rfl (Nat.le_refl _) hC ?_; conv => whnf) | ((first | refine wN ?_ | refine wNc ?_ | refine wA ?_ | refine wB ?_ | refine wC ?_ | refine wD ?_ | refine vA ?_ | refine vB ?_ | refine vC ?_ | refine vD ?_ | refine uA ?_ | refine uB ?_ | refine uC ?_ | refine uD ?_); conv => whnf) | ((first | apply Pick.dec | apply Pick.beq | apply Cond.dec | apply Cond.beq | apply Cond.nd | apply Pick.nd | apply Pick.mk | apply Cond.mk) <;> intro h <;> conv => whnf))
          apply jw [0, 1] [true, true, true, true, true, false, false, false, false, false, false, false, false, false, false, false, false, false, true, true, true, true, true] _ _ rfl
          exact ih
        · have ih := ih (c + 1) q (by omega) (by omega) (by omega) hqw hqU (fun t ht htp => by have := hlo2 t (by omega) ht; omega) hB
          have eq1 : IntKind.i64.wrap (((a + c : Nat) : Int) + 1) = ((a + (c + 1) : Nat) : Int) := by rw [wi64_id (by omega) (by omega)]; omega
          have hneg : ¬ rkAt rr (fv (w - 1 - c)) - rkAt rr (fu c) < 0 := by omega
          generalize rkAt rr (fv (w - 1 - c)) - rkAt rr (fu c) = cv at *
          generalize fu c = uu at *
          generalize fv (w - 1 - c) = vv at *
          apply js
          (conv => whnf) <;> repeat' (first | (rw [e1]; conv => whnf) | (rw [e2]; conv => whnf) | (rw [e4]; conv => whnf) | (rw [t1]; conv => whnf) | (rw [t2]; conv => whnf) | (rw [gx]; conv => whnf) | (rw [gy]; conv => whnf) | (refine CalledH.mk [1] _ _ rfl (Nat.le_refl _) hC ?_; conv => whnf) | ((first | refine wN ?_ | refine wNc ?_ | refine wA ?_ | refine wB ?_ | refine wC ?_ | refine wD ?_ | refine vA ?_ | refine vB ?_ | refine vC ?_ | refine vD ?_ | refine uA ?_ | refine uB ?_ | refine uC ?_ | refine uD ?_); conv => whnf) | ((first | apply Pick.dec | apply Pick.beq | apply Cond.dec | apply Cond.beq | apply Cond.nd | apply Pick.nd | apply Pick.mk | apply Cond.mk) <;> intro h <;> conv => whnf))
          rw [eq1]
          apply jw [0, 1] [true, true, true, true, true, false, false, false, false, false, false, false, false, false, false, false, false, false, true, true, true, true, true] _ _ rfl
          exact ih
      · obtain rfl : p = q := by omega
        exact place p hlo hqw hqU hA hB
  apply jw [0, 1] [true, true, true, true, true, false, false, false, false, false, false, false, false, false, false, false, false, false, true, true, true, true, true] _ _ rfl
  exact search u 0 u (by omega) (by omega) (by omega) (by omega) (Nat.le_refl _) (fun t h1 h2 => by omega) (fun t h1 _ h2 => by omega)
end Go.Proofs.Ythjgnmpnagmeoaa

