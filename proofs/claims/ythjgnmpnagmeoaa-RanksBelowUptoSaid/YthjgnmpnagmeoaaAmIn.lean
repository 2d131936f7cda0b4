/- The stable sort's parts: symMerge where one side is of one element. -/
import Derived.Test.YthjgnmpnagmeoaaAmIm
set_option linter.unusedVariables false
set_option linter.unusedSimpArgs false
set_option maxRecDepth 100000
namespace Go.Proofs.Ythjgnmpnagmeoaa
open Go.AM
theorem mid_eq (X : Nat) (h : X ≤ 1000000000) : IntKind.i64.wrap ((IntKind.u64.wrap ((X : Nat) : Int)).fdiv (2 ^ min (Int.toNat 1) IntKind.u64.bits)) = ((X / 2 : Nat) : Int) := by
  have e1 : IntKind.u64.wrap ((X : Nat) : Int) = ((X : Nat) : Int) := w64_id (by omega) (by omega)
  have e2 : ((2 : Int) ^ min (Int.toNat 1) IntKind.u64.bits) = 2 := by decide
  rw [e1, e2, Int.fdiv_eq_ediv_of_nonneg _ (by omega), wi64_id (by omega) (by omega)]
  omega
set_option maxHeartbeats 4000000 in
theorem symA_ret (rr pre V post : List Int) (x : Int) (hV : 0 < V.length) (N : Nat) (hN : N = (pre ++ x :: V ++ post).length) (hb : N ≤ 1048576) (hok : RrOk rr (pre ++ x :: V ++ post)) (hs : SortR (rkAt rr) V) (hlt : ∀ v ∈ V, x < v) :
    Ret Try.prog 63 [.row 0 N, .int .i64 ((pre.length : Nat) : Int), .int .i64 ((pre.length + 1 : Nat) : Int), .int .i64 ((pre.length + 1 + V.length : Nat) : Int), cmV] [.row 3 1 N (gU (pre ++ x :: V ++ post)) 0, .cells [eL 1 cI rr]]
      (.tup []) [.row 3 1 N (gU (pre ++ ordF (rkAt rr) (x :: V) ++ post)) 0, .cells [eL 1 cI rr]] := by
  simp only [List.length_append, List.length_cons] at hN
  have e0 : IntKind.i64.wrap (((pre.length + 1 : Nat) : Int) - ((pre.length : Nat) : Int)) = 1 := by rw [wi64_id (by omega) (by omega)]; omega
  obtain ⟨rk, el⟩ := hok
  have elV : ∀ y ∈ V, 0 ≤ y ∧ y < (rr.length : Int) := fun y hy => el y (by simp [hy])
  have hx := el x (by simp)
  have mono := fun (i j : Nat) (hij : i ≤ j) (hj : j < V.length) => sortR_rank hs hij hj
  refine ret_of_body atNone tok mixed Try.func63 (by kernel_rfl) rfl (k := 220) (rs := []) (by kernel_rfl) (by kernel_rfl) ?_
  (conv => whnf) <;> repeat' (first | (rw [e0]; conv => whnf) | ((first | refine wN ?_ | refine wNc ?_ | refine wA ?_ | refine wB ?_ | refine wC ?_ | refine wD ?_ | refine vA ?_ | refine vB ?_ | refine vC ?_ | refine vD ?_ | refine uA ?_ | refine uB ?_ | refine uC ?_ | refine uD ?_); conv => whnf) | ((first | apply Pick.dec | apply Pick.beq | apply Cond.dec | apply Cond.beq | apply Cond.nd | apply Pick.nd | apply Pick.mk | apply Cond.mk) <;> intro h <;> conv => whnf))
  intro J jw js
  have search : ∀ (f p q : Nat), q - p ≤ f → p ≤ q → q ≤ V.length → (∀ t (h : t < V.length), t < p → rkAt rr V[t] < rkAt rr x) → (∀ t (h : t < V.length), q ≤ t → rkAt rr x ≤ rkAt rr V[t]) →
      J [.row 0 N, .int .i64 ((pre.length : Nat) : Int), .und, .und, cmV, .und, .und, .und, .und, .und, .int .i64 ((pre.length + 1 + p : Nat) : Int), .int .i64 ((pre.length + 1 + q : Nat) : Int), .und, .und, .und, .und, .und, .und, .und, .und, .und, .und, .und, .und, .und, .und, .und, .und, .und, .und, .und, .und, .und, .und, .und, .und, .und, .und, .und, .und, .und, .und, .und, .und, .und, .und, .und, .und, .und, .und, .und, .und, .und, .und, .und, .und, .und, .und, .und, .und, .und, .und, .und, .und, .und, .und, .und, .und, .und, .und, .und, .und, .und, .und, .und, .und, .und, .und, .und, .und, .und, .und, .und, .und, .und, .und, .und, .und, .und, .und, .und, .und, .und, .und, .und, .und, .und, .und, .und, .und, .und, .und, .und, .und, .und, .und, .und, .und, .und, .und, .und, .und, .und, .und, .und, .und, .und, .und, .und, .und, .und, .und, .und, .und, .und, .und, .und, .und, .und, .und, .und, .und, .und, .und, .und, .und, .und, .und, .und, .und, .und, .und, .und, .und, .und, .und, .und, .und, .und, .und, .und, .und, .und, .und, .und, .und, .und, .und, .und, .und, .und, .und, .und, .und, .und, .und, .und, .und, .und, .und, .und, .und, .und, .und, .und, .und, .und, .und, .und, .und, .und, .und, .und, .und, .und, .und, .und, .und, .und, .und, .und, .und, .und, .und, .und, .und, .und, .und, .und, .und, .und, .und, .und, .und, .und, .und, .und, .und, .und, .und, .und, .und, .und, .und, .und, .und, .und, .und, .und, .und] [.row 3 1 N (gU (pre ++ x :: V ++ post)) 0, .cells [eL 1 cI rr]] := by
    -- the place is found: x goes there
    have place : ∀ (p : Nat), p ≤ V.length → (∀ t (h : t < V.length), t < p → rkAt rr V[t] < rkAt rr x) → (∀ t (h : t < V.length), p ≤ t → rkAt rr x ≤ rkAt rr V[t]) →
        J [.row 0 N, .int .i64 ((pre.length : Nat) : Int), .und, .und, cmV, .und, .und, .und, .und, .und, .int .i64 ((pre.length + 1 + p : Nat) : Int), .int .i64 ((pre.length + 1 + p : Nat) : Int), .und, .und, .und, .und, .und, .und, .und, .und, .und, .und, .und, .und, .und, .und, .und, .und, .und, .und, .und, .und, .und, .und, .und, .und, .und, .und, .und, .und, .und, .und, .und, .und, .und, .und, .und, .und, .und, .und, .und, .und, .und, .und, .und, .und, .und, .und, .und, .und, .und, .und, .und, .und, .und, .und, .und, .und, .und, .und, .und, .und, .und, .und, .und, .und, .und, .und, .und, .und, .und, .und, .und, .und, .und, .und, .und, .und, .und, .und, .und, .und, .und, .und, .und, .und, .und, .und, .und, .und, .und, .und, .und, .und, .und, .und, .und, .und, .und, .und, .und, .und, .und, .und, .und, .und, .und, .und, .und, .und, .und, .und, .und, .und, .und, .und, .und, .und, .und, .und, .und, .und, .und, .und, .und, .und, .und, .und, .und, .und, .und, .und, .und, .und, .und, .und, .und, .und, .und, .und, .und, .und, .und, .und, .und, .und, .und, .und, .und, .und, .und, .und, .und, .und, .und, .und, .und, .und, .und, .und, .und, .und, .und, .und, .und, .und, .und, .und, .und, .und, .und, .und, .und, .und, .und, .und, .und, .und, .und, .und, .und, .und, .und, .und, .und, .und, .und, .und, .und, .und, .und, .und, .und, .und, .und, .und, .und, .und, .und, .und, .und, .und, .und, .und, .und, .und, .und, .und, .und, .und] [.row 3 1 N (gU (pre ++ x :: V ++ post)) 0, .cells [eL 1 cI rr]] := by
      intro p hp hA hS
      have hord : V.take p ++ x :: V.drop p = ordF (rkAt rr) (x :: V) := by
        have := ordF_insert' (f := rkAt rr) (A := V.take p) (S := V.drop p) (x := x) (by rw [List.take_append_drop]; exact hs) (fun a ha => by
          obtain ⟨i, hi, rfl⟩ := List.mem_iff_getElem.1 ha
          rw [List.getElem_take]
          rw [List.length_take] at hi
          exact hA i (by omega) (by omega)) (fun s hs' => by
          obtain ⟨i, hi, rfl⟩ := List.mem_iff_getElem.1 hs'
          rw [List.getElem_drop]
          rw [List.length_drop] at hi
          exact hS (p + i) (by omega) (by omega)) (fun s hs' => hlt s (List.mem_of_mem_drop hs'))
        rw [List.take_append_drop] at this
        exact this.symm
      have ei : IntKind.i64.wrap (((pre.length + 1 + p : Nat) : Int) - 1) = ((pre.length + p : Nat) : Int) := by rw [wi64_id (by omega) (by omega)]; omega
      apply js
      (conv => whnf) <;> repeat' (first | ((first | refine wN ?_ | refine wNc ?_ | refine wA ?_ | refine wB ?_ | refine wC ?_ | refine wD ?_ | refine vA ?_ | refine vB ?_ | refine vC ?_ | refine vD ?_ | refine uA ?_ | refine uB ?_ | refine uC ?_ | refine uD ?_); conv => whnf) | ((first | apply Pick.dec | apply Pick.beq | apply Cond.dec | apply Cond.beq | apply Cond.nd | apply Pick.nd | apply Pick.mk | apply Cond.mk) <;> intro h <;> conv => whnf))
      intro K kw ks
      have swap : ∀ (d c : Nat), c + d = p → K [.row 0 N, .und, .und, .und, .und, .und, .und, .und, .und, .und, .int .i64 ((pre.length + 1 + p : Nat) : Int), .und, .und, .int .i64 ((pre.length + c : Nat) : Int), .und, .und, .und, .und, .und, .und, .und, .und, .und, .und, .und, .und, .und, .und, .und, .und, .und, .und, .und, .und, .und, .und, .und, .und, .und, .und, .und, .und, .und, .und, .und, .und, .und, .und, .und, .und, .und, .und, .und, .und, .und, .und, .und, .und, .und, .und, .und, .und, .und, .und, .und, .und, .und, .und, .und, .und, .und, .und, .und, .und, .und, .und, .und, .und, .und, .und, .und, .und, .und, .und, .und, .und, .und, .und, .und, .und, .und, .und, .und, .und, .und, .und, .und, .und, .und, .und, .und, .und, .und, .und, .und, .und, .und, .und, .und, .und, .und, .und, .und, .und, .und, .und, .und, .und, .und, .und, .und, .und, .und, .und, .und, .und, .und, .und, .und, .und, .und, .und, .und, .und, .und, .und, .und, .und, .und, .und, .und, .und, .und, .und, .und, .und, .und, .und, .und, .und, .und, .und, .und, .und, .und, .und, .und, .und, .und, .und, .und, .und, .und, .und, .und, .und, .und, .und, .und, .und, .und, .und, .und, .und, .und, .und, .und, .und, .und, .und, .und, .und, .und, .und, .und, .und, .und, .und, .und, .und, .und, .und, .und, .und, .und, .und, .und, .und, .und, .und, .und, .und, .und, .und, .und, .und, .und, .und, .und, .und, .und, .und, .und, .und, .und, .und, .und, .und, .und, .und] [.row 3 1 N (gU (pre ++ (V.take c ++ x :: V.drop c) ++ post)) 0, .cells [eL 1 cI rr]] := by
        intro d
        induction d with
        | zero =>
          intro c hc
          obtain rfl : c = p := by omega
          apply ks
          (conv => whnf) <;> repeat' (first | (rw [ei]; conv => whnf) | ((first | refine wN ?_ | refine wNc ?_ | refine wA ?_ | refine wB ?_ | refine wC ?_ | refine wD ?_ | refine vA ?_ | refine vB ?_ | refine vC ?_ | refine vD ?_ | refine uA ?_ | refine uB ?_ | refine uC ?_ | refine uD ?_); conv => whnf) | ((first | apply Pick.dec | apply Pick.beq | apply Cond.dec | apply Cond.beq | apply Cond.nd | apply Pick.nd | apply Pick.mk | apply Cond.mk) <;> intro h <;> conv => whnf))
          exact EndH.mk [0, 1] rfl rfl (by rw [← hord]; rfl)
        | succ d im =>
          intro c hc
          have hcV : c < V.length := by omega
          have im := im (c + 1) (by omega)
          have hD : pre ++ (V.take c ++ x :: V.drop c) ++ post = (pre ++ V.take c) ++ x :: ([] ++ V[c] :: (V.drop (c + 1) ++ post)) := by
            rw [List.drop_eq_getElem_cons hcV]; simp only [List.append_assoc, List.cons_append, List.nil_append]
          have hD2 : (pre ++ V.take c) ++ V[c] :: ([] ++ x :: (V.drop (c + 1) ++ post)) = pre ++ (V.take (c + 1) ++ x :: V.drop (c + 1)) ++ post := by
            rw [List.take_succ_eq_append_getElem hcV]; simp only [List.append_assoc, List.cons_append, List.nil_append]
          have hl1 : (pre ++ V.take c).length = pre.length + c := by simp; omega
          have hl2 : (pre ++ V.take c).length + 1 + ([] : List Int).length = pre.length + (c + 1) := by simp; omega
          have hl3 : (V.drop (c + 1)).length = V.length - (c + 1) := by simp
          rw [hD]
          generalize V.drop (c + 1) = R at *
          generalize V[c] = y at *
          generalize V.take c = A' at *
          have gx := get_mid (A := pre ++ A') (x := x) (C := [] ++ y :: (R ++ post))
          have gy := get_mid2 (A := pre ++ A') (B := []) (x := x) (y := y) (C := R ++ post)
          have s1 := gU_set (L := (pre ++ A') ++ x :: ([] ++ y :: (R ++ post))) (i := (pre ++ A').length) (v := y) (by simp only [List.length_append, List.length_cons, List.length_nil]; omega)
          have s2 := gU_set (L := (pre ++ A') ++ y :: ([] ++ y :: (R ++ post))) (i := (pre ++ A').length + 1 + ([] : List Int).length) (v := x) (by simp only [List.length_append, List.length_cons, List.length_nil]; omega)
          rw [set_mid] at s1
          rw [set_mid2] at s2
          rw [hl2] at gy s2
          rw [hl1] at gx s1
          rw [hD2] at s2
          have ej : IntKind.i64.wrap (((pre.length + c : Nat) : Int) + 1) = ((pre.length + (c + 1) : Nat) : Int) := by rw [wi64_id (by omega) (by omega)]; omega
          have t1 := toNat_n (pre.length + c)
          have t2 := toNat_n (pre.length + (c + 1))
          apply ks
          (conv => whnf) <;> repeat' (first | (rw [ei]; conv => whnf) | (rw [ej]; conv => whnf) | (rw [t1]; conv => whnf) | (rw [t2]; conv => whnf) | (rw [gx]; conv => whnf) | (rw [gy]; conv => whnf) | (rw [s1]; conv => whnf) | (rw [s2]; conv => whnf) | ((first | refine wN ?_ | refine wNc ?_ | refine wA ?_ | refine wB ?_ | refine wC ?_ | refine wD ?_ | refine vA ?_ | refine vB ?_ | refine vC ?_ | refine vD ?_ | refine uA ?_ | refine uB ?_ | refine uC ?_ | refine uD ?_); conv => whnf) | ((first | apply Pick.dec | apply Pick.beq | apply Cond.dec | apply Cond.beq | apply Cond.nd | apply Pick.nd | apply Pick.mk | apply Cond.mk) <;> intro h <;> conv => whnf))
          apply kw [0, 1] [true, false, false, false, false, false, false, false, false, false, true, false, false, true] _ _ rfl
          exact im
      apply kw [0, 1] [true, false, false, false, false, false, false, false, false, false, true, false, false, true] _ _ rfl
      have := swap p 0 (by omega)
      rw [List.take_zero, List.drop_zero, List.nil_append] at this
      exact this
    intro f
    induction f with
    | zero =>
      intro p q hf hpq hqV hA hS
      obtain rfl : p = q := by omega
      exact place p hqV hA hS
    | succ f ih =>
      intro p q hf hpq hqV hA hS
      by_cases h : p < q
      · have e1 : IntKind.i64.wrap (((pre.length + 1 + p : Nat) : Int) + ((pre.length + 1 + q : Nat) : Int)) = ((pre.length + 1 + p + (pre.length + 1 + q) : Nat) : Int) := by rw [wi64_id (by omega) (by omega)]; omega
        have e2 := mid_eq (pre.length + 1 + p + (pre.length + 1 + q)) (by omega)
        obtain ⟨c, hc⟩ : ∃ c, c = (p + q) / 2 := ⟨_, rfl⟩
        have e3 : (pre.length + 1 + p + (pre.length + 1 + q)) / 2 = pre.length + 1 + c := by omega
        rw [e3] at e2
        have hcV : c < V.length := by omega
        have hD : pre ++ x :: V ++ post = (pre ++ x :: V.take c) ++ V[c] :: (V.drop (c + 1) ++ post) := by
          conv => lhs; rw [← List.take_append_drop c V, List.drop_eq_getElem_cons hcV]
          simp only [List.append_assoc, List.cons_append, List.nil_append]
        have hl1 : (pre ++ x :: V.take c).length = pre.length + 1 + c := by simp; omega
        have gy := get_mid (A := pre ++ x :: V.take c) (x := V[c]) (C := V.drop (c + 1) ++ post)
        rw [hl1, ← hD] at gy
        have gx := get_mid (A := pre) (x := x) (C := V ++ post)
        rw [← List.cons_append, ← List.append_assoc] at gx
        have hyr := elV V[c] (List.getElem_mem hcV)
        have hC := cmp_ret rr V[c] x hyr hx rk
        have hlo := fun (t : Nat) (ht : t ≤ c) => mono t c ht hcV
        have hhi := fun (t : Nat) (ht : c ≤ t) (htV : t < V.length) => mono c t ht htV
        have t1 := toNat_n (pre.length + 1 + c)
        have t2 := toNat_n pre.length
        by_cases hlt2 : rkAt rr V[c] < rkAt rr x
        · have ih := ih (c + 1) q (by omega) (by omega) hqV (fun t ht htp => by have := hlo t (by omega); omega) hS
          have eq1 : IntKind.i64.wrap (((pre.length + 1 + c : Nat) : Int) + 1) = ((pre.length + 1 + (c + 1) : Nat) : Int) := by rw [wi64_id (by omega) (by omega)]; omega
          have hneg : rkAt rr V[c] - rkAt rr x < 0 := by omega
          generalize rkAt rr V[c] - rkAt rr x = cv at *
          generalize V[c] = y at *
          apply js
          (conv => whnf) <;> repeat' (first | (rw [e1]; conv => whnf) | (rw [e2]; conv => whnf) | (rw [t1]; conv => whnf) | (rw [t2]; conv => whnf) | (rw [gx]; conv => whnf) | (rw [gy]; conv => whnf) | (refine CalledH.mk [1] _ _ rfl (Nat.le_refl _) hC ?_; conv => whnf) | ((first | refine wN ?_ | refine wNc ?_ | refine wA ?_ | refine wB ?_ | refine wC ?_ | refine wD ?_ | refine vA ?_ | refine vB ?_ | refine vC ?_ | refine vD ?_ | refine uA ?_ | refine uB ?_ | refine uC ?_ | refine uD ?_); conv => whnf) | ((first | apply Pick.dec | apply Pick.beq | apply Cond.dec | apply Cond.beq | apply Cond.nd | apply Pick.nd | apply Pick.mk | apply Cond.mk) <;> intro h <;> conv => whnf))
          rw [eq1]
          apply jw [0, 1] [true, true, false, false, true, false, false, false, false, false, true, true] _ _ rfl
          exact ih
        · have ih := ih p c (by omega) (by omega) (by omega) hA (fun t htV ht => by have := hhi t ht htV; omega)
          have hneg : ¬ rkAt rr V[c] - rkAt rr x < 0 := by omega
          generalize rkAt rr V[c] - rkAt rr x = cv at *
          generalize V[c] = y at *
          apply js
          (conv => whnf) <;> repeat' (first | (rw [e1]; conv => whnf) | (rw [e2]; conv => whnf) | (rw [t1]; conv => whnf) | (rw [t2]; conv => whnf) | (rw [gx]; conv => whnf) | (rw [gy]; conv => whnf) | (refine CalledH.mk [1] _ _ rfl (Nat.le_refl _) hC ?_; conv => whnf) | ((first | refine wN ?_ | refine wNc ?_ | refine wA ?_ | refine wB ?_ | refine wC ?_ | refine wD ?_ | refine vA ?_ | refine vB ?_ | refine vC ?_ | refine vD ?_ | refine uA ?_ | refine uB ?_ | refine uC ?_ | refine uD ?_); conv => whnf) | ((first | apply Pick.dec | apply Pick.beq | apply Cond.dec | apply Cond.beq | apply Cond.nd | apply Pick.nd | apply Pick.mk | apply Cond.mk) <;> intro h <;> conv => whnf))
          apply jw [0, 1] [true, true, false, false, true, false, false, false, false, false, true, true] _ _ rfl
          exact ih
      · obtain rfl : p = q := by omega
        exact place p hqV hA hS
  apply jw [0, 1] [true, true, false, false, true, false, false, false, false, false, true, true] _ _ rfl
  exact search V.length 0 V.length (by omega) (by omega) (Nat.le_refl _) (fun t _ h => absurd h (by omega)) (fun t h1 h2 => by omega)
end Go.Proofs.Ythjgnmpnagmeoaa

set_option linter.unusedVariables false
set_option linter.unusedSimpArgs false
set_option maxRecDepth 100000
namespace Go.Proofs.Ythjgnmpnagmeoaa
open Go.AM
set_option maxHeartbeats 4000000 in
theorem symB_ret (rr pre U post : List Int) (x : Int) (hU : 1 < U.length) (N : Nat) (hN : N = (pre ++ U ++ x :: post).length) (hb : N ≤ 1048576) (hok : RrOk rr (pre ++ U ++ x :: post)) (hs : SortR (rkAt rr) U) (hlt : ∀ u ∈ U, u < x) :
    Ret Try.prog 63 [.row 0 N, .int .i64 ((pre.length : Nat) : Int), .int .i64 ((pre.length + U.length : Nat) : Int), .int .i64 ((pre.length + U.length + 1 : Nat) : Int), cmV] [.row 3 1 N (gU (pre ++ U ++ x :: post)) 0, .cells [eL 1 cI rr]]
      (.tup []) [.row 3 1 N (gU (pre ++ ordF (rkAt rr) (U ++ [x]) ++ post)) 0, .cells [eL 1 cI rr]] := by
  simp only [List.length_append, List.length_cons] at hN
  have e0 : IntKind.i64.wrap (((pre.length + U.length : Nat) : Int) - ((pre.length : Nat) : Int)) = ((U.length : Nat) : Int) := by rw [wi64_id (by omega) (by omega)]; omega
  have e0' : IntKind.i64.wrap (((pre.length + U.length + 1 : Nat) : Int) - ((pre.length + U.length : Nat) : Int)) = 1 := by rw [wi64_id (by omega) (by omega)]; omega
  obtain ⟨rk, el⟩ := hok
  have elU : ∀ y ∈ U, 0 ≤ y ∧ y < (rr.length : Int) := fun y hy => el y (by simp [hy])
  have hx := el x (by simp)
  have mono := fun (i j : Nat) (hij : i ≤ j) (hj : j < U.length) => sortR_rank hs hij hj
  refine ret_of_body atNone tok mixed Try.func63 (by kernel_rfl) rfl (k := 220) (rs := []) (by kernel_rfl) (by kernel_rfl) ?_
  (conv => whnf) <;> repeat' (first | (rw [e0]; conv => whnf) | (rw [e0']; conv => whnf) | ((first | refine wN ?_ | refine wNc ?_ | refine wA ?_ | refine wB ?_ | refine wC ?_ | refine wD ?_ | refine vA ?_ | refine vB ?_ | refine vC ?_ | refine vD ?_ | refine uA ?_ | refine uB ?_ | refine uC ?_ | refine uD ?_); conv => whnf) | ((first | apply Pick.dec | apply Pick.beq | apply Cond.dec | apply Cond.beq | apply Cond.nd | apply Pick.nd | apply Pick.mk | apply Cond.mk) <;> intro h <;> conv => whnf))
  intro J jw js
  have search : ∀ (f p q : Nat), q - p ≤ f → p ≤ q → q ≤ U.length → (∀ t (h : t < U.length), t < p → rkAt rr U[t] ≤ rkAt rr x) → (∀ t (h : t < U.length), q ≤ t → rkAt rr x < rkAt rr U[t]) →
      J [.row 0 N, .und, .int .i64 ((pre.length + U.length : Nat) : Int), .und, cmV, .und, .und, .und, .und, .und, .und, .und, .und, .und, .int .i64 ((pre.length + p : Nat) : Int), .int .i64 ((pre.length + q : Nat) : Int), .und, .und, .und, .und, .und, .und, .und, .und, .und, .und, .und, .und, .und, .und, .und, .und, .und, .und, .und, .und, .und, .und, .und, .und, .und, .und, .und, .und, .und, .und, .und, .und, .und, .und, .und, .und, .und, .und, .und, .und, .und, .und, .und, .und, .und, .und, .und, .und, .und, .und, .und, .und, .und, .und, .und, .und, .und, .und, .und, .und, .und, .und, .und, .und, .und, .und, .und, .und, .und, .und, .und, .und, .und, .und, .und, .und, .und, .und, .und, .und, .und, .und, .und, .und, .und, .und, .und, .und, .und, .und, .und, .und, .und, .und, .und, .und, .und, .und, .und, .und, .und, .und, .und, .und, .und, .und, .und, .und, .und, .und, .und, .und, .und, .und, .und, .und, .und, .und, .und, .und, .und, .und, .und, .und, .und, .und, .und, .und, .und, .und, .und, .und, .und, .und, .und, .und, .und, .und, .und, .und, .und, .und, .und, .und, .und, .und, .und, .und, .und, .und, .und, .und, .und, .und, .und, .und, .und, .und, .und, .und, .und, .und, .und, .und, .und, .und, .und, .und, .und, .und, .und, .und, .und, .und, .und, .und, .und, .und, .und, .und, .und, .und, .und, .und, .und, .und, .und, .und, .und, .und, .und, .und, .und, .und, .und, .und, .und, .und, .und, .und, .und, .und, .und, .und] [.row 3 1 N (gU (pre ++ U ++ x :: post)) 0, .cells [eL 1 cI rr]] := by
    have place : ∀ (p : Nat), p ≤ U.length → (∀ t (h : t < U.length), t < p → rkAt rr U[t] ≤ rkAt rr x) → (∀ t (h : t < U.length), p ≤ t → rkAt rr x < rkAt rr U[t]) →
        J [.row 0 N, .und, .int .i64 ((pre.length + U.length : Nat) : Int), .und, cmV, .und, .und, .und, .und, .und, .und, .und, .und, .und, .int .i64 ((pre.length + p : Nat) : Int), .int .i64 ((pre.length + p : Nat) : Int), .und, .und, .und, .und, .und, .und, .und, .und, .und, .und, .und, .und, .und, .und, .und, .und, .und, .und, .und, .und, .und, .und, .und, .und, .und, .und, .und, .und, .und, .und, .und, .und, .und, .und, .und, .und, .und, .und, .und, .und, .und, .und, .und, .und, .und, .und, .und, .und, .und, .und, .und, .und, .und, .und, .und, .und, .und, .und, .und, .und, .und, .und, .und, .und, .und, .und, .und, .und, .und, .und, .und, .und, .und, .und, .und, .und, .und, .und, .und, .und, .und, .und, .und, .und, .und, .und, .und, .und, .und, .und, .und, .und, .und, .und, .und, .und, .und, .und, .und, .und, .und, .und, .und, .und, .und, .und, .und, .und, .und, .und, .und, .und, .und, .und, .und, .und, .und, .und, .und, .und, .und, .und, .und, .und, .und, .und, .und, .und, .und, .und, .und, .und, .und, .und, .und, .und, .und, .und, .und, .und, .und, .und, .und, .und, .und, .und, .und, .und, .und, .und, .und, .und, .und, .und, .und, .und, .und, .und, .und, .und, .und, .und, .und, .und, .und, .und, .und, .und, .und, .und, .und, .und, .und, .und, .und, .und, .und, .und, .und, .und, .und, .und, .und, .und, .und, .und, .und, .und, .und, .und, .und, .und, .und, .und, .und, .und, .und, .und, .und, .und, .und, .und, .und, .und] [.row 3 1 N (gU (pre ++ U ++ x :: post)) 0, .cells [eL 1 cI rr]] := by
      intro p hp hA hS
      have hord : U.take p ++ x :: U.drop p = ordF (rkAt rr) (U ++ [x]) := by
        have := ordF_insert (f := rkAt rr) (A := U.take p) (S := U.drop p) (x := x) (by rw [List.take_append_drop]; exact hs) (fun a ha => by
          obtain ⟨i, hi, rfl⟩ := List.mem_iff_getElem.1 ha
          rw [List.getElem_take]
          rw [List.length_take] at hi
          exact hA i (by omega) (by omega)) (fun s hs' => by
          obtain ⟨i, hi, rfl⟩ := List.mem_iff_getElem.1 hs'
          rw [List.getElem_drop]
          rw [List.length_drop] at hi
          exact hS (p + i) (by omega) (by omega)) (fun s hs' => hlt s (List.mem_of_mem_take hs'))
        rw [List.take_append_drop] at this
        exact this.symm
      apply js
      (conv => whnf) <;> repeat' (first | ((first | refine wN ?_ | refine wNc ?_ | refine wA ?_ | refine wB ?_ | refine wC ?_ | refine wD ?_ | refine vA ?_ | refine vB ?_ | refine vC ?_ | refine vD ?_ | refine uA ?_ | refine uB ?_ | refine uC ?_ | refine uD ?_); conv => whnf) | ((first | apply Pick.dec | apply Pick.beq | apply Cond.dec | apply Cond.beq | apply Cond.nd | apply Pick.nd | apply Pick.mk | apply Cond.mk) <;> intro h <;> conv => whnf))
      intro K kw ks
      have swap : ∀ (d c : Nat), p + d = c → c ≤ U.length → K [.row 0 N, .und, .und, .und, .und, .und, .und, .und, .und, .und, .und, .und, .und, .und, .int .i64 ((pre.length + p : Nat) : Int), .und, .und, .int .i64 ((pre.length + c : Nat) : Int), .und, .und, .und, .und, .und, .und, .und, .und, .und, .und, .und, .und, .und, .und, .und, .und, .und, .und, .und, .und, .und, .und, .und, .und, .und, .und, .und, .und, .und, .und, .und, .und, .und, .und, .und, .und, .und, .und, .und, .und, .und, .und, .und, .und, .und, .und, .und, .und, .und, .und, .und, .und, .und, .und, .und, .und, .und, .und, .und, .und, .und, .und, .und, .und, .und, .und, .und, .und, .und, .und, .und, .und, .und, .und, .und, .und, .und, .und, .und, .und, .und, .und, .und, .und, .und, .und, .und, .und, .und, .und, .und, .und, .und, .und, .und, .und, .und, .und, .und, .und, .und, .und, .und, .und, .und, .und, .und, .und, .und, .und, .und, .und, .und, .und, .und, .und, .und, .und, .und, .und, .und, .und, .und, .und, .und, .und, .und, .und, .und, .und, .und, .und, .und, .und, .und, .und, .und, .und, .und, .und, .und, .und, .und, .und, .und, .und, .und, .und, .und, .und, .und, .und, .und, .und, .und, .und, .und, .und, .und, .und, .und, .und, .und, .und, .und, .und, .und, .und, .und, .und, .und, .und, .und, .und, .und, .und, .und, .und, .und, .und, .und, .und, .und, .und, .und, .und, .und, .und, .und, .und, .und, .und, .und, .und, .und, .und, .und, .und, .und, .und, .und, .und] [.row 3 1 N (gU (pre ++ (U.take c ++ x :: U.drop c) ++ post)) 0, .cells [eL 1 cI rr]] := by
        intro d
        induction d with
        | zero =>
          intro c hc hcU
          obtain rfl : c = p := by omega
          apply ks
          (conv => whnf) <;> repeat' (first | ((first | refine wN ?_ | refine wNc ?_ | refine wA ?_ | refine wB ?_ | refine wC ?_ | refine wD ?_ | refine vA ?_ | refine vB ?_ | refine vC ?_ | refine vD ?_ | refine uA ?_ | refine uB ?_ | refine uC ?_ | refine uD ?_); conv => whnf) | ((first | apply Pick.dec | apply Pick.beq | apply Cond.dec | apply Cond.beq | apply Cond.nd | apply Pick.nd | apply Pick.mk | apply Cond.mk) <;> intro h <;> conv => whnf))
          exact EndH.mk [0, 1] rfl rfl (by rw [← hord]; rfl)
        | succ d im =>
          intro c' hc hcU
          obtain ⟨c, rfl⟩ : ∃ c, c' = c + 1 := ⟨c' - 1, by omega⟩
          have hcV : c < U.length := by omega
          have im := im c (by omega) (by omega)
          have hD : pre ++ (U.take (c + 1) ++ x :: U.drop (c + 1)) ++ post = (pre ++ U.take c) ++ U[c] :: ([] ++ x :: (U.drop (c + 1) ++ post)) := by
            rw [List.take_succ_eq_append_getElem hcV]; simp only [List.append_assoc, List.cons_append, List.nil_append]
          have hD2 : (pre ++ U.take c) ++ x :: ([] ++ U[c] :: (U.drop (c + 1) ++ post)) = pre ++ (U.take c ++ x :: U.drop c) ++ post := by
            rw [List.drop_eq_getElem_cons hcV]; simp only [List.append_assoc, List.cons_append, List.nil_append]
          have hl1 : (pre ++ U.take c).length = pre.length + c := by simp; omega
          have hl2 : (pre ++ U.take c).length + 1 + ([] : List Int).length = pre.length + (c + 1) := by simp; omega
          have hl3 : (U.drop (c + 1)).length = U.length - (c + 1) := by simp
          rw [hD]
          generalize U.drop (c + 1) = R at *
          generalize U[c] = y at *
          generalize U.take c = A' at *
          have gy := get_mid (A := pre ++ A') (x := y) (C := [] ++ x :: (R ++ post))
          have gx := get_mid2 (A := pre ++ A') (B := []) (x := y) (y := x) (C := R ++ post)
          have s1 := gU_set (L := (pre ++ A') ++ y :: ([] ++ x :: (R ++ post))) (i := (pre ++ A').length + 1 + ([] : List Int).length) (v := y) (by simp only [List.length_append, List.length_cons, List.length_nil]; omega)
          have s2 := gU_set (L := (pre ++ A') ++ y :: ([] ++ y :: (R ++ post))) (i := (pre ++ A').length) (v := x) (by simp only [List.length_append, List.length_cons, List.length_nil]; omega)
          rw [set_mid2] at s1
          rw [set_mid] at s2
          rw [hl2] at gx s1
          rw [hl1] at gy s2
          rw [hD2] at s2
          have ej : IntKind.i64.wrap (((pre.length + (c + 1) : Nat) : Int) - 1) = ((pre.length + c : Nat) : Int) := by rw [wi64_id (by omega) (by omega)]; omega
          have t1 := toNat_n (pre.length + c)
          have t2 := toNat_n (pre.length + (c + 1))
          apply ks
          (conv => whnf) <;> repeat' (first | (rw [ej]; conv => whnf) | (rw [t1]; conv => whnf) | (rw [t2]; conv => whnf) | (rw [gx]; conv => whnf) | (rw [gy]; conv => whnf) | (rw [s1]; conv => whnf) | (rw [s2]; conv => whnf) | ((first | refine wN ?_ | refine wNc ?_ | refine wA ?_ | refine wB ?_ | refine wC ?_ | refine wD ?_ | refine vA ?_ | refine vB ?_ | refine vC ?_ | refine vD ?_ | refine uA ?_ | refine uB ?_ | refine uC ?_ | refine uD ?_); conv => whnf) | ((first | apply Pick.dec | apply Pick.beq | apply Cond.dec | apply Cond.beq | apply Cond.nd | apply Pick.nd | apply Pick.mk | apply Cond.mk) <;> intro h <;> conv => whnf))
          apply kw [0, 1] [true, false, false, false, false, false, false, false, false, false, false, false, false, false, true, false, false, true] _ _ rfl
          exact im
      apply kw [0, 1] [true, false, false, false, false, false, false, false, false, false, false, false, false, false, true, false, false, true] _ _ rfl
      have := swap (U.length - p) U.length (by omega) (Nat.le_refl _)
      rw [List.take_length, List.drop_length] at this
      have e9 : pre ++ (U ++ [x]) ++ post = pre ++ U ++ x :: post := by simp
      rw [e9] at this
      exact this
    intro f
    induction f with
    | zero =>
      intro p q hf hpq hqV hA hS
      obtain rfl : p = q := by omega
      exact place p hqV hA hS
    | succ f ih =>
      intro p q hf hpq hqV hA hS
      by_cases h : p < q
      · have e1 : IntKind.i64.wrap (((pre.length + p : Nat) : Int) + ((pre.length + q : Nat) : Int)) = ((pre.length + p + (pre.length + q) : Nat) : Int) := by rw [wi64_id (by omega) (by omega)]; omega
        have e2 := mid_eq (pre.length + p + (pre.length + q)) (by omega)
        obtain ⟨c, hc⟩ : ∃ c, c = (p + q) / 2 := ⟨_, rfl⟩
        have e3 : (pre.length + p + (pre.length + q)) / 2 = pre.length + c := by omega
        rw [e3] at e2
        have hcV : c < U.length := by omega
        have hD : pre ++ U ++ x :: post = (pre ++ U.take c) ++ U[c] :: (U.drop (c + 1) ++ x :: post) := by
          conv => lhs; rw [← List.take_append_drop c U, List.drop_eq_getElem_cons hcV]
          simp only [List.append_assoc, List.cons_append, List.nil_append]
        have hl1 : (pre ++ U.take c).length = pre.length + c := by simp; omega
        have gy := get_mid (A := pre ++ U.take c) (x := U[c]) (C := U.drop (c + 1) ++ x :: post)
        rw [hl1, ← hD] at gy
        have gx := get_mid (A := pre ++ U) (x := x) (C := post)
        rw [show (pre ++ U).length = pre.length + U.length by simp] at gx
        have hyr := elU U[c] (List.getElem_mem hcV)
        have hC := cmp_ret rr x U[c] hx hyr rk
        have hlo := fun (t : Nat) (ht : t ≤ c) => mono t c ht hcV
        have hhi := fun (t : Nat) (ht : c ≤ t) (htV : t < U.length) => mono c t ht htV
        have t1 := toNat_n (pre.length + c)
        have t2 := toNat_n (pre.length + U.length)
        by_cases hlt2 : rkAt rr x < rkAt rr U[c]
        · have ih := ih p c (by omega) (by omega) (by omega) hA (fun t htV ht => by have := hhi t ht htV; omega)
          have hneg : rkAt rr x - rkAt rr U[c] < 0 := by omega
          generalize rkAt rr x - rkAt rr U[c] = cv at *
          generalize U[c] = y at *
          apply js
          (conv => whnf) <;> repeat' (first | (rw [e1]; conv => whnf) | (rw [e2]; conv => whnf) | (rw [t1]; conv => whnf) | (rw [t2]; conv => whnf) | (rw [gx]; conv => whnf) | (rw [gy]; conv => whnf) | (refine CalledH.mk [1] _ _ rfl (Nat.le_refl _) hC ?_; conv => whnf) | ((first | refine wN ?_ | refine wNc ?_ | refine wA ?_ | refine wB ?_ | refine wC ?_ | refine wD ?_ | refine vA ?_ | refine vB ?_ | refine vC ?_ | refine vD ?_ | refine uA ?_ | refine uB ?_ | refine uC ?_ | refine uD ?_); conv => whnf) | ((first | apply Pick.dec | apply Pick.beq | apply Cond.dec | apply Cond.beq | apply Cond.nd | apply Pick.nd | apply Pick.mk | apply Cond.mk) <;> intro h <;> conv => whnf))
          apply jw [0, 1] [true, false, true, false, true, false, false, false, false, false, false, false, false, false, true, true] _ _ rfl
          exact ih
        · have ih := ih (c + 1) q (by omega) (by omega) hqV (fun t ht htp => by have := hlo t (by omega); omega) hS
          have eq1 : IntKind.i64.wrap (((pre.length + c : Nat) : Int) + 1) = ((pre.length + (c + 1) : Nat) : Int) := by rw [wi64_id (by omega) (by omega)]; omega
          have hneg : ¬ rkAt rr x - rkAt rr U[c] < 0 := by omega
          generalize rkAt rr x - rkAt rr U[c] = cv at *
          generalize U[c] = y at *
          apply js
          (conv => whnf) <;> repeat' (first | (rw [e1]; conv => whnf) | (rw [e2]; conv => whnf) | (rw [t1]; conv => whnf) | (rw [t2]; conv => whnf) | (rw [gx]; conv => whnf) | (rw [gy]; conv => whnf) | (refine CalledH.mk [1] _ _ rfl (Nat.le_refl _) hC ?_; conv => whnf) | ((first | refine wN ?_ | refine wNc ?_ | refine wA ?_ | refine wB ?_ | refine wC ?_ | refine wD ?_ | refine vA ?_ | refine vB ?_ | refine vC ?_ | refine vD ?_ | refine uA ?_ | refine uB ?_ | refine uC ?_ | refine uD ?_); conv => whnf) | ((first | apply Pick.dec | apply Pick.beq | apply Cond.dec | apply Cond.beq | apply Cond.nd | apply Pick.nd | apply Pick.mk | apply Cond.mk) <;> intro h <;> conv => whnf))
          rw [eq1]
          apply jw [0, 1] [true, false, true, false, true, false, false, false, false, false, false, false, false, false, true, true] _ _ rfl
          exact ih
      · obtain rfl : p = q := by omega
        exact place p hqV hA hS
  apply jw [0, 1] [true, false, true, false, true, false, false, false, false, false, false, false, false, false, true, true] _ _ rfl
  exact search U.length 0 U.length (by omega) (by omega) (Nat.le_refl _) (fun t _ h => absurd h (by omega)) (fun t h1 h2 => by omega)
end Go.Proofs.Ythjgnmpnagmeoaa

set_option linter.unusedVariables false
set_option linter.unusedSimpArgs false
set_option maxRecDepth 100000
namespace Go.Proofs.Ythjgnmpnagmeoaa
open Go.AM
theorem RrOk.perm {rr D D' : List Int} (h : RrOk rr D) (hp : D'.Perm D) : RrOk rr D' := ⟨h.rk, fun x hx => h.el x (hp.mem_iff.1 hx)⟩
theorem getD_mem {l : List Int} {i : Nat} (h : i < l.length) : l.getD i 0 ∈ l := by
  rw [List.getD_eq_getElem?_getD, List.getElem?_eq_getElem h]; exact List.getElem_mem _
def SymQ (rr : List Int) (sz : Nat) : Prop := ∀ (pre U V post : List Int) (N : Nat), U.length + V.length ≤ sz → 0 < U.length → 0 < V.length → N = (pre ++ U ++ V ++ post).length → N ≤ 1048576 → RrOk rr (pre ++ U ++ V ++ post) →
    SortR (rkAt rr) U → SortR (rkAt rr) V → (∀ u ∈ U, ∀ v ∈ V, u < v) →
    Ret Try.prog 63 [.row 0 N, .int .i64 ((pre.length : Nat) : Int), .int .i64 ((pre.length + U.length : Nat) : Int), .int .i64 ((pre.length + U.length + V.length : Nat) : Int), cmV] [.row 3 1 N (gU (pre ++ U ++ V ++ post)) 0, .cells [eL 1 cI rr]]
      (.tup []) [.row 3 1 N (gU (pre ++ ordF (rkAt rr) (U ++ V) ++ post)) 0, .cells [eL 1 cI rr]]
/-- what is left to do where i of the left and w - i of the right stand ahead of the middle -/
def Left (rr D0 DF : List Int) (a u v w N i : Nat) : Prop := ∃ D1 D2 : List Int, (¬ (i < u ∧ 0 < w - i) → D1 = D0) ∧
    ((i < u ∧ 0 < w - i) → Ret Try.prog 70 [.row 0 N, .int .i64 ((a + i : Nat) : Int), .int .i64 ((a + u : Nat) : Int), .int .i64 ((a + u + (w - i) : Nat) : Int), cmV] [.row 3 1 N (gU D0) 0, .cells [eL 1 cI rr]] (.tup []) [.row 3 1 N (gU D1) 0, .cells [eL 1 cI rr]]) ∧
    (¬ (0 < i ∧ i < w) → D2 = D1) ∧
    ((0 < i ∧ i < w) → Ret Try.prog 63 [.row 0 N, .int .i64 ((a : Nat) : Int), .int .i64 ((a + i : Nat) : Int), .int .i64 ((a + w : Nat) : Int), cmV] [.row 3 1 N (gU D1) 0, .cells [eL 1 cI rr]] (.tup []) [.row 3 1 N (gU D2) 0, .cells [eL 1 cI rr]]) ∧
    (¬ (i < u ∧ w - i < v) → DF = D2) ∧
    ((i < u ∧ w - i < v) → Ret Try.prog 63 [.row 0 N, .int .i64 ((a + w : Nat) : Int), .int .i64 ((a + u + (w - i) : Nat) : Int), .int .i64 ((a + u + v : Nat) : Int), cmV] [.row 3 1 N (gU D2) 0, .cells [eL 1 cI rr]] (.tup []) [.row 3 1 N (gU DF) 0, .cells [eL 1 cI rr]])
theorem symTail (rr : List Int) (sz : Nat) (ih : SymQ rr sz) (pre U V post : List Int) (N w : Nat) (hsz : U.length + V.length ≤ sz + 1) (hU0 : 1 < U.length) (hV0 : 1 < V.length) (hN' : N = (pre ++ U ++ V ++ post).length) (hb : N ≤ 1048576) (hok : RrOk rr (pre ++ U ++ V ++ post))
    (hsU : SortR (rkAt rr) U) (hsV : SortR (rkAt rr) V) (hlt : ∀ u ∈ U, ∀ v ∈ V, u < v) (hw1 : w < U.length + V.length) (hw2 : 0 < w) (i : Nat) (h1 : w - V.length ≤ i) (h2 : i ≤ w) (h3 : i ≤ U.length)
    (hA : ∀ t, w - V.length ≤ t → t < i → rkAt rr (U.getD t 0) ≤ rkAt rr (V.getD (w - 1 - t) 0)) (hB : ∀ t, i ≤ t → t < w → t < U.length → rkAt rr (V.getD (w - 1 - t) 0) < rkAt rr (U.getD t 0)) :
    Left rr (pre ++ U ++ V ++ post) (pre ++ ordF (rkAt rr) (U ++ V) ++ post) pre.length U.length V.length w N i := by
  have hN := hN'
  simp only [List.length_append] at hN
  have hj : w - i ≤ V.length := by omega
  have hsplit := sym_split (i := i) (j := w - i) hsU hsV hlt h3 hj (fun h0 h4 => by
    have := hA (i - 1) (by omega) (by omega)
    rw [show w - 1 - (i - 1) = w - i by omega] at this
    exact this) (fun h0 h4 => by
    have := hB i (Nat.le_refl _) (by omega) h0
    rw [show w - 1 - i = w - i - 1 by omega] at this
    exact this)
  have hU2 : U.take i ++ U.drop i = U := List.take_append_drop ..
  have hV2 : V.take (w - i) ++ V.drop (w - i) = V := List.take_append_drop ..
  have l1 : (U.take i).length = i := by rw [List.length_take]; omega
  have l2 : (U.drop i).length = U.length - i := List.length_drop ..
  have l3 : (V.take (w - i)).length = w - i := by rw [List.length_take]; omega
  have l4 : (V.drop (w - i)).length = V.length - (w - i) := List.length_drop ..
  have s1 := sortR_take hsU i
  have s2 := sortR_drop hsU i
  have s3 := sortR_take hsV (w - i)
  have s4 := sortR_drop hsV (w - i)
  have x1 : ∀ u ∈ U.take i, ∀ v ∈ V.take (w - i), u < v := fun u hu v hv => hlt u (List.mem_of_mem_take hu) v (List.mem_of_mem_take hv)
  have x2 : ∀ u ∈ U.drop i, ∀ v ∈ V.drop (w - i), u < v := fun u hu v hv => hlt u (List.mem_of_mem_drop hu) v (List.mem_of_mem_drop hv)
  generalize U.take i = U1 at *
  generalize U.drop i = U2 at *
  generalize V.take (w - i) = V1 at *
  generalize V.drop (w - i) = V2 at *
  have hul : U.length = U1.length + U2.length := by rw [← hU2]; simp
  have hvl : V.length = V1.length + V2.length := by rw [← hV2]; simp
  have ol := ordF_len (rkAt rr) (U1 ++ V1)
  rw [List.length_append] at ol
  have p1 : (pre ++ U1 ++ V1 ++ (U2 ++ V2 ++ post)).Perm (pre ++ U ++ V ++ post) := by
    rw [← hU2, ← hV2]
    have : (V1 ++ U2).Perm (U2 ++ V1) := List.perm_append_comm
    have h9 := ((this.append_left (pre ++ U1)).append_right (V2 ++ post))
    simpa [List.append_assoc] using h9
  have p2 : (pre ++ ordF (rkAt rr) (U1 ++ V1) ++ U2 ++ V2 ++ post).Perm (pre ++ U ++ V ++ post) := by
    refine .trans ?_ p1
    have h9 := (((ordF_perm (rkAt rr) (U1 ++ V1)).append_left pre).append_right (U2 ++ V2 ++ post))
    simpa [List.append_assoc] using h9
  refine ⟨pre ++ U1 ++ V1 ++ (U2 ++ V2 ++ post), pre ++ ordF (rkAt rr) (U1 ++ V1) ++ U2 ++ V2 ++ post, fun hc => ?_, fun hc => ?_, fun hc => ?_, fun hc => ?_, fun hc => ?_, fun hc => ?_⟩
  · rw [← hU2, ← hV2]
    rcases Nat.eq_zero_or_pos U2.length with h0 | h0
    · obtain rfl : U2 = [] := List.eq_nil_of_length_eq_zero h0
      simp [List.append_assoc]
    · obtain rfl : V1 = [] := List.eq_nil_of_length_eq_zero (by omega)
      simp [List.append_assoc]
  · have hR := rot_ret rr (pre ++ U1) U2 V1 (V2 ++ post) (by omega) (by omega) N (by simp only [List.length_append]; omega) hb
    have e1 : (pre ++ U1).length = pre.length + i := by rw [List.length_append, l1]
    have e2 : (pre ++ U1).length + U2.length = pre.length + U.length := by rw [List.length_append]; omega
    rw [e2, e1, l3] at hR
    have e3 : pre ++ U1 ++ U2 ++ V1 ++ (V2 ++ post) = pre ++ U ++ V ++ post := by rw [← hU2, ← hV2]; simp [List.append_assoc]
    have e4 : pre ++ U1 ++ V1 ++ U2 ++ (V2 ++ post) = pre ++ U1 ++ V1 ++ (U2 ++ V2 ++ post) := by simp [List.append_assoc]
    rw [e3, e4] at hR
    exact hR
  · have : SortR (rkAt rr) (U1 ++ V1) := by
      rcases Nat.eq_zero_or_pos U1.length with h0 | h0
      · obtain rfl : U1 = [] := List.eq_nil_of_length_eq_zero h0
        simpa using s3
      · obtain rfl : V1 = [] := List.eq_nil_of_length_eq_zero (by omega)
        simpa using s1
    rw [ordF_self this]
    simp [List.append_assoc]
  · have hR := ih pre U1 V1 (U2 ++ V2 ++ post) N (by omega) (by omega) (by omega) (by simp only [List.length_append]; omega) hb (hok.perm p1) s1 s3 x1
    rw [l1, l3, show pre.length + i + (w - i) = pre.length + w by omega] at hR
    have e4 : pre ++ ordF (rkAt rr) (U1 ++ V1) ++ (U2 ++ V2 ++ post) = pre ++ ordF (rkAt rr) (U1 ++ V1) ++ U2 ++ V2 ++ post := by simp [List.append_assoc]
    rw [e4] at hR
    exact hR
  · have : SortR (rkAt rr) (U2 ++ V2) := by
      rcases Nat.eq_zero_or_pos U2.length with h0 | h0
      · obtain rfl : U2 = [] := List.eq_nil_of_length_eq_zero h0
        simpa using s4
      · obtain rfl : V2 = [] := List.eq_nil_of_length_eq_zero (by omega)
        simpa using s2
    rw [hsplit, ordF_self this]
    simp [List.append_assoc]
  · have hR := ih (pre ++ ordF (rkAt rr) (U1 ++ V1)) U2 V2 post N (by omega) (by omega) (by omega) (by simp only [List.length_append]; omega) hb (hok.perm p2) s2 s4 x2
    have e1 : (pre ++ ordF (rkAt rr) (U1 ++ V1)).length = pre.length + w := by rw [List.length_append, ol]; omega
    rw [e1, show pre.length + w + U2.length = pre.length + U.length + (w - i) by omega, show pre.length + U.length + (w - i) + V2.length = pre.length + U.length + V.length by omega] at hR
    have e4 : pre ++ ordF (rkAt rr) (U1 ++ V1) ++ ordF (rkAt rr) (U2 ++ V2) ++ post = pre ++ ordF (rkAt rr) (U ++ V) ++ post := by rw [hsplit]; simp [List.append_assoc]
    rw [e4] at hR
    exact hR
end Go.Proofs.Ythjgnmpnagmeoaa

