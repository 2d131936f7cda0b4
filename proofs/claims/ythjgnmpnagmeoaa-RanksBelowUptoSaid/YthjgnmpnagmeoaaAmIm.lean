/- The stable sort's parts: the comparison, swapRange, rotate, insertionSort. -/
import Derived.Test.YthjgnmpnagmeoaaAmIl
import Derived.Test.YthjgnmpnagmeoaaAmIf
set_option linter.unusedVariables false
set_option linter.unusedSimpArgs false
set_option maxRecDepth 100000
namespace Go.Proofs.Ythjgnmpnagmeoaa
open Go.AM
abbrev ocF : FuncId := 35
theorem cmp_ret (rr : List Int) (a b : Int) (ha : 0 ≤ a ∧ a < (rr.length : Int)) (hb : 0 ≤ b ∧ b < (rr.length : Int)) (hr : ∀ x ∈ rr, -1 ≤ x ∧ x ≤ 1048576) : Ret Try.prog ocF [.int .i64 a, .int .i64 b, .ptr 0 0] [.cells [eL 1 cI rr]] (.int .i64 (rkAt rr a - rkAt rr b)) [.cells [eL 1 cI rr]] := by
  have ga : getL cI rr (Int.toNat a) = cI (rkAt rr a) := by
    unfold rkAt
    rw [List.getD_eq_getElem?_getD, List.getElem?_eq_getElem (by omega)]
    exact getL_at (List.getElem?_eq_getElem (by omega))
  have gb : getL cI rr (Int.toNat b) = cI (rkAt rr b) := by
    unfold rkAt
    rw [List.getD_eq_getElem?_getD, List.getElem?_eq_getElem (by omega)]
    exact getL_at (List.getElem?_eq_getElem (by omega))
  have ba : -1 ≤ rkAt rr a ∧ rkAt rr a ≤ 1048576 := by
    unfold rkAt
    rw [List.getD_eq_getElem?_getD, List.getElem?_eq_getElem (by omega)]
    exact hr _ (List.getElem_mem _)
  have bb : -1 ≤ rkAt rr b ∧ rkAt rr b ≤ 1048576 := by
    unfold rkAt
    rw [List.getD_eq_getElem?_getD, List.getElem?_eq_getElem (by omega)]
    exact hr _ (List.getElem_mem _)
  generalize rkAt rr a = x at *
  generalize rkAt rr b = y at *
  have ew : IntKind.i64.wrap (x - y) = x - y := wi64_id (by omega) (by omega)
  refine ret_of_body atNone tok mixed Try.func35 (by kernel_rfl) rfl (k := 15) (rs := [.tmp 5]) (by kernel_rfl) (by kernel_rfl) ?_
  (conv => whnf) <;> repeat' (first | ((conv => arg 1; whnf); rw [ga]; conv => whnf) | ((conv => arg 1; whnf); rw [gb]; conv => whnf) | ((first | refine wN ?_ | refine wNc ?_ | refine wA ?_ | refine wB ?_ | refine wC ?_ | refine wD ?_ | refine vA ?_ | refine vB ?_ | refine vC ?_ | refine vD ?_ | refine uA ?_ | refine uB ?_ | refine uC ?_ | refine uD ?_); conv => whnf) | ((first | apply Pick.dec | apply Pick.beq | apply Cond.dec | apply Cond.beq | apply Cond.nd | apply Pick.nd | apply Pick.mk | apply Cond.mk) <;> intro h <;> conv => whnf))
  exact EndH.mk [0] rfl (int_eq ew) rfl
abbrev cmV : Val := .fn 35 [] [.ptr 1 0]
theorem toNat_n (n : Nat) : Int.toNat (n : Int) = n := Int.toNat_natCast n
set_option maxHeartbeats 4000000 in
theorem swapR_ret (rr l P m Q r : List Int) (hPQ : P.length = Q.length) (N : Nat) (hN : N = (l ++ P ++ m ++ Q ++ r).length) (hb : N ≤ 1048576) :
    Ret Try.prog 74 [.row 0 N, .int .i64 ((l.length : Nat) : Int), .int .i64 ((l.length + P.length + m.length : Nat) : Int), .int .i64 ((P.length : Nat) : Int), cmV] [.row 3 1 N (gU (l ++ P ++ m ++ Q ++ r)) 0, .cells [eL 1 cI rr]]
      (.tup []) [.row 3 1 N (gU (l ++ Q ++ m ++ P ++ r)) 0, .cells [eL 1 cI rr]] := by
  simp only [List.length_append] at hN
  refine ret_of_body atNone tok mixed Try.func74 (by kernel_rfl) rfl (k := 38) (rs := []) (by kernel_rfl) (by kernel_rfl) ?_
  (conv => whnf) <;> repeat' (first | ((first | refine wN ?_ | refine wNc ?_ | refine wA ?_ | refine wB ?_ | refine wC ?_ | refine wD ?_ | refine vA ?_ | refine vB ?_ | refine vC ?_ | refine vD ?_ | refine uA ?_ | refine uB ?_ | refine uC ?_ | refine uD ?_); conv => whnf) | ((first | apply Pick.dec | apply Pick.beq | apply Cond.dec | apply Cond.beq | apply Cond.nd | apply Pick.nd | apply Pick.mk | apply Cond.mk) <;> intro h <;> conv => whnf))
  intro J jw js
  have turn : ∀ (d i : Nat) (D : List Int), i + d = P.length → D = l ++ (Q.take i ++ P.drop i) ++ m ++ (P.take i ++ Q.drop i) ++ r →
      J [.row 0 N, .int .i64 ((l.length : Nat) : Int), .int .i64 ((l.length + P.length + m.length : Nat) : Int), .int .i64 ((P.length : Nat) : Int), .und, .und, .und, .und, .und, .und, .int .i64 (i : Int), .und, .und, .und, .und, .und, .und, .und, .und, .und, .und, .und, .und, .und, .und, .und, .und, .und, .und, .und, .und, .und, .und, .und, .und, .und, .und, .und] [.row 3 1 N (gU D) 0, .cells [eL 1 cI rr]] := by
    intro d
    induction d with
    | zero =>
      intro i D hi hD
      have hD : D = l ++ Q ++ m ++ P ++ r := by
        rw [hD, List.drop_of_length_le (by omega), List.drop_of_length_le (by omega), List.take_of_length_le (by omega), List.take_of_length_le (by omega)]
        simp
      subst hD
      apply js
      conv => whnf
      refine Cond.ff (decF (by omega)) ?_
      (conv => whnf) <;> repeat' (first | ((first | refine wN ?_ | refine wNc ?_ | refine wA ?_ | refine wB ?_ | refine wC ?_ | refine wD ?_ | refine vA ?_ | refine vB ?_ | refine vC ?_ | refine vD ?_ | refine uA ?_ | refine uB ?_ | refine uC ?_ | refine uD ?_); conv => whnf) | ((first | apply Pick.dec | apply Pick.beq | apply Cond.dec | apply Cond.beq | apply Cond.nd | apply Pick.nd | apply Pick.mk | apply Cond.mk) <;> intro h <;> conv => whnf))
      exact EndH.mk [0, 1] rfl rfl rfl
    | succ d im =>
      intro i D hi hD
      have hiP : i < P.length := by omega
      have hiQ : i < Q.length := by omega
      obtain ⟨A, hA⟩ : ∃ A, A = l ++ Q.take i := ⟨_, rfl⟩
      obtain ⟨B, hB⟩ : ∃ B, B = P.drop (i + 1) ++ m ++ P.take i := ⟨_, rfl⟩
      obtain ⟨C, hC⟩ : ∃ C, C = Q.drop (i + 1) ++ r := ⟨_, rfl⟩
      have hD1 : D = A ++ P[i] :: (B ++ Q[i] :: C) := by
        rw [hD, hA, hB, hC, List.drop_eq_getElem_cons hiP, List.drop_eq_getElem_cons hiQ]
        simp only [List.append_assoc, List.cons_append, List.nil_append]
      have hD2 : A ++ Q[i] :: (B ++ P[i] :: C) = l ++ (Q.take (i + 1) ++ P.drop (i + 1)) ++ m ++ (P.take (i + 1) ++ Q.drop (i + 1)) ++ r := by
        rw [hA, hB, hC, List.take_succ_eq_append_getElem hiP, List.take_succ_eq_append_getElem hiQ]
        simp only [List.append_assoc, List.cons_append, List.nil_append]
      have hAl : A.length = l.length + i := by rw [hA, List.length_append, List.length_take]; omega
      have hBl : A.length + 1 + B.length = l.length + P.length + m.length + i := by rw [hAl, hB]; simp; omega
      have hCl : C.length = Q.length - (i + 1) + r.length := by rw [hC]; simp
      have im := im (i + 1) _ (by omega) hD2
      generalize P[i] = x at *
      generalize Q[i] = y at *
      have e1 : IntKind.i64.wrap ((i : Int) + 1) = ((i + 1 : Nat) : Int) := by rw [wi64_id (by omega) (by omega)]; omega
      have eA : IntKind.i64.wrap (((l.length : Nat) : Int) + (i : Int)) = ((A.length : Nat) : Int) := by rw [wi64_id (by omega) (by omega)]; omega
      have eB : IntKind.i64.wrap (((l.length + P.length + m.length : Nat) : Int) + (i : Int)) = ((A.length + 1 + B.length : Nat) : Int) := by rw [wi64_id (by omega) (by omega)]; omega
      have hDl : D.length = N := by rw [hD1]; simp only [List.length_append, List.length_cons]; omega
      have gx : D.getD A.length 0 = x := by rw [hD1]; exact get_mid
      have gy : D.getD (A.length + 1 + B.length) 0 = y := by rw [hD1]; exact get_mid2
      have s1 := gU_set (L := D) (i := A.length) (v := y) (by omega)
      have s2 := gU_set (L := A ++ y :: (B ++ y :: C)) (i := A.length + 1 + B.length) (v := x) (by simp only [List.length_append, List.length_cons]; omega)
      rw [set_mid2] at s2
      rw [hD1, set_mid, ← hD1] at s1
      have tA := toNat_n A.length
      have tB := toNat_n (A.length + 1 + B.length)
      have hlA : ((A.length : Nat) : Int) < (N : Int) := by omega
      have hlB : ((A.length + 1 + B.length : Nat) : Int) < (N : Int) := by omega
      clear hA hB hC hD hD1 hD2
      apply js
      conv => whnf
      refine Cond.tt (decT (by omega)) ?_
      (conv => whnf) <;> repeat' (first | (rw [eA]; conv => whnf) | (rw [eB]; conv => whnf) | (rw [tA]; conv => whnf) | (rw [tB]; conv => whnf) | (rw [gx]; conv => whnf) | (rw [gy]; conv => whnf) | (rw [s1]; conv => whnf) | (rw [s2]; conv => whnf) | ((first | refine wN ?_ | refine wNc ?_ | refine wA ?_ | refine wB ?_ | refine wC ?_ | refine wD ?_ | refine vA ?_ | refine vB ?_ | refine vC ?_ | refine vD ?_ | refine uA ?_ | refine uB ?_ | refine uC ?_ | refine uD ?_); conv => whnf) | ((first | apply Pick.dec | apply Pick.beq | apply Cond.dec | apply Cond.beq | apply Cond.nd | apply Pick.nd | apply Pick.mk | apply Cond.mk) <;> intro h <;> conv => whnf))
      rw [e1]
      apply jw [0, 1] [true, true, true, true, false, false, false, false, false, false, true] _ _ rfl
      exact im
  apply jw [0, 1] [true, true, true, true, false, false, false, false, false, false, true] _ _ rfl
  exact turn P.length 0 _ (by omega) (by simp)
end Go.Proofs.Ythjgnmpnagmeoaa

set_option linter.unusedVariables false
set_option linter.unusedSimpArgs false
set_option maxRecDepth 100000
namespace Go.Proofs.Ythjgnmpnagmeoaa
open Go.AM
set_option maxHeartbeats 4000000 in
theorem rot_ret (rr l X Y r : List Int) (hX : 0 < X.length) (hY : 0 < Y.length) (N : Nat) (hN : N = (l ++ X ++ Y ++ r).length) (hb : N ≤ 1048576) :
    Ret Try.prog 70 [.row 0 N, .int .i64 ((l.length : Nat) : Int), .int .i64 ((l.length + X.length : Nat) : Int), .int .i64 ((l.length + X.length + Y.length : Nat) : Int), cmV] [.row 3 1 N (gU (l ++ X ++ Y ++ r)) 0, .cells [eL 1 cI rr]]
      (.tup []) [.row 3 1 N (gU (l ++ Y ++ X ++ r)) 0, .cells [eL 1 cI rr]] := by
  simp only [List.length_append] at hN
  obtain ⟨T, hT⟩ : ∃ T, T = l ++ Y ++ X ++ r := ⟨_, rfl⟩
  rw [← hT]
  have e10 : IntKind.i64.wrap (((l.length + X.length : Nat) : Int) - ((l.length : Nat) : Int)) = ((X.length : Nat) : Int) := by rw [wi64_id (by omega) (by omega)]; omega
  have e11 : IntKind.i64.wrap (((l.length + X.length + Y.length : Nat) : Int) - ((l.length + X.length : Nat) : Int)) = ((Y.length : Nat) : Int) := by rw [wi64_id (by omega) (by omega)]; omega
  obtain ⟨m, hm⟩ : ∃ m, m = l.length + X.length := ⟨_, rfl⟩
  have e10 : IntKind.i64.wrap (((m : Nat) : Int) - ((l.length : Nat) : Int)) = ((X.length : Nat) : Int) := by rw [hm]; exact e10
  have e11 : IntKind.i64.wrap (((m + Y.length : Nat) : Int) - ((m : Nat) : Int)) = ((Y.length : Nat) : Int) := by rw [hm]; exact e11
  rw [← hm]
  refine ret_of_body atNone tok mixed Try.func70 (by kernel_rfl) rfl (k := 58) (rs := []) (by kernel_rfl) (by kernel_rfl) ?_
  (conv => whnf) <;> repeat' (first | (rw [e10]; conv => whnf) | (rw [e11]; conv => whnf) | ((first | refine wN ?_ | refine wNc ?_ | refine wA ?_ | refine wB ?_ | refine wC ?_ | refine wD ?_ | refine vA ?_ | refine vB ?_ | refine vC ?_ | refine vD ?_ | refine uA ?_ | refine uB ?_ | refine uC ?_ | refine uD ?_); conv => whnf) | ((first | apply Pick.dec | apply Pick.beq | apply Cond.dec | apply Cond.beq | apply Cond.nd | apply Pick.nd | apply Pick.mk | apply Cond.mk) <;> intro h <;> conv => whnf))
  intro J jw js
  have turn : ∀ (f i j : Nat) (l' X' Y' r' : List Int), i + j ≤ f → X'.length = i → Y'.length = j → 0 < i → 0 < j → l'.length + i = m → T = l' ++ Y' ++ X' ++ r' → N = l'.length + i + j + r'.length →
      J [.row 0 N, .und, .int .i64 (m : Int), .und, cmV, .und, .und, .und, .und, .und, .int .i64 (i : Int), .int .i64 (j : Int), .und, .und, .und, .und, .und, .und, .und, .und, .und, .und, .und, .und, .und, .und, .und, .und, .und, .und, .und, .und, .und, .und, .und, .und, .und, .und, .und, .und, .und, .und, .und, .und, .und, .und, .und, .und, .und, .und, .und, .und, .und, .und, .und, .und, .und, .und] [.row 3 1 N (gU (l' ++ X' ++ Y' ++ r')) 0, .cells [eL 1 cI rr]] := by
    intro f
    induction f with
    | zero => intro i j l' X' Y' r' h _ _ h1 h2 _ _ _; omega
    | succ f im =>
      intro i j l' X' Y' r' hf hi hj hi0 hj0 hml hTe hNe
      have eA : IntKind.i64.wrap (((m : Nat) : Int) - (i : Int)) = ((l'.length : Nat) : Int) := by rw [wi64_id (by omega) (by omega)]; omega
      rcases Nat.lt_trichotomy i j with h | h | h
      · -- the left is shorter
        have hS := swapR_ret rr l' X' (Y'.take (j - i)) (Y'.drop (j - i)) r' (by simp; omega) N (by simp; omega) hb
        have h1 : l'.length + X'.length + (Y'.take (j - i)).length = m + j - i := by simp; omega
        have h2 : l' ++ X' ++ Y'.take (j - i) ++ Y'.drop (j - i) ++ r' = l' ++ X' ++ Y' ++ r' := by simp [List.append_assoc]
        rw [h1, hi, h2] at hS
        have im := im i (j - i) l' (Y'.drop (j - i)) (Y'.take (j - i)) (X' ++ r') (by omega) (by simp; omega) (by simp; omega) hi0 (by omega) hml (by rw [hTe]; simp [List.append_assoc]) (by simp; omega)
        have h3 : l' ++ Y'.drop (j - i) ++ Y'.take (j - i) ++ (X' ++ r') = l' ++ Y'.drop (j - i) ++ Y'.take (j - i) ++ X' ++ r' := by simp [List.append_assoc]
        rw [h3] at im
        have eB1 : IntKind.i64.wrap (((m : Nat) : Int) + (j : Int)) = ((m + j : Nat) : Int) := by rw [wi64_id (by omega) (by omega)]; omega
        have eB2 : IntKind.i64.wrap (((m + j : Nat) : Int) - (i : Int)) = ((m + j - i : Nat) : Int) := by rw [wi64_id (by omega) (by omega)]; omega
        have eC : IntKind.i64.wrap ((j : Int) - (i : Int)) = ((j - i : Nat) : Int) := by rw [wi64_id (by omega) (by omega)]; omega
        apply js
        (conv => whnf) <;> repeat' (first | (rw [eA]; conv => whnf) | (rw [eB1]; conv => whnf) | (rw [eB2]; conv => whnf) | (refine NeedC.own (CalledH.mk [0, 1] _ _ rfl (by simp) hS ?_); conv => whnf) | ((first | refine wN ?_ | refine wNc ?_ | refine wA ?_ | refine wB ?_ | refine wC ?_ | refine wD ?_ | refine vA ?_ | refine vB ?_ | refine vC ?_ | refine vD ?_ | refine uA ?_ | refine uB ?_ | refine uC ?_ | refine uD ?_); conv => whnf) | ((first | apply Pick.dec | apply Pick.beq | apply Cond.dec | apply Cond.beq | apply Cond.nd | apply Pick.nd | apply Pick.mk | apply Cond.mk) <;> intro h <;> conv => whnf))
        rw [eC]
        apply jw [0, 1] [true, false, true, false, true, false, false, false, false, false, true, true] _ _ rfl
        exact im
      · subst h
        have hS := swapR_ret rr l' X' [] Y' r' (by omega) N (by simp; omega) hb
        have h1 : l'.length + X'.length + ([] : List Int).length = m := by simp; omega
        have h2 : l' ++ X' ++ [] ++ Y' ++ r' = l' ++ X' ++ Y' ++ r' := by simp
        have h3 : l' ++ Y' ++ [] ++ X' ++ r' = T := by rw [hTe]; simp
        rw [h1, hi, h2, h3] at hS
        apply js
        (conv => whnf) <;> repeat' (first | (rw [eA]; conv => whnf) | (refine NeedC.own (CalledH.mk [0, 1] _ _ rfl (by simp) hS ?_); conv => whnf) | ((first | refine wN ?_ | refine wNc ?_ | refine wA ?_ | refine wB ?_ | refine wC ?_ | refine wD ?_ | refine vA ?_ | refine vB ?_ | refine vC ?_ | refine vD ?_ | refine uA ?_ | refine uB ?_ | refine uC ?_ | refine uD ?_); conv => whnf) | ((first | apply Pick.dec | apply Pick.beq | apply Cond.dec | apply Cond.beq | apply Cond.nd | apply Pick.nd | apply Pick.mk | apply Cond.mk) <;> intro h <;> conv => whnf))
        exact EndH.mk [0, 1] rfl rfl rfl
      · have hS := swapR_ret rr l' (X'.take j) (X'.drop j) Y' r' (by simp; omega) N (by simp; omega) hb
        have h1 : l'.length + (X'.take j).length + (X'.drop j).length = m := by simp; omega
        have h4 : (X'.take j).length = j := by simp; omega
        have h2 : l' ++ X'.take j ++ X'.drop j ++ Y' ++ r' = l' ++ X' ++ Y' ++ r' := by simp [List.append_assoc]
        rw [h1, h4, h2] at hS
        have im := im (i - j) j (l' ++ Y') (X'.drop j) (X'.take j) r' (by omega) (by simp; omega) (by simp; omega) (by omega) hj0 (by simp; omega) (by rw [hTe]; simp [List.append_assoc]) (by simp; omega)
        have eC : IntKind.i64.wrap ((i : Int) - (j : Int)) = ((i - j : Nat) : Int) := by rw [wi64_id (by omega) (by omega)]; omega
        apply js
        (conv => whnf) <;> repeat' (first | (rw [eA]; conv => whnf) | (refine NeedC.own (CalledH.mk [0, 1] _ _ rfl (by simp) hS ?_); conv => whnf) | ((first | refine wN ?_ | refine wNc ?_ | refine wA ?_ | refine wB ?_ | refine wC ?_ | refine wD ?_ | refine vA ?_ | refine vB ?_ | refine vC ?_ | refine vD ?_ | refine uA ?_ | refine uB ?_ | refine uC ?_ | refine uD ?_); conv => whnf) | ((first | apply Pick.dec | apply Pick.beq | apply Cond.dec | apply Cond.beq | apply Cond.nd | apply Pick.nd | apply Pick.mk | apply Cond.mk) <;> intro h <;> conv => whnf))
        rw [eC]
        apply jw [0, 1] [true, false, true, false, true, false, false, false, false, false, true, true] _ _ rfl
        exact im
  apply jw [0, 1] [true, false, true, false, true, false, false, false, false, false, true, true] _ _ rfl
  exact turn (X.length + Y.length) X.length Y.length l X Y r (Nat.le_refl _) rfl rfl hX hY hm.symm hT (by omega)
end Go.Proofs.Ythjgnmpnagmeoaa

set_option linter.unusedVariables false
set_option linter.unusedSimpArgs false
set_option maxRecDepth 100000
namespace Go.Proofs.Ythjgnmpnagmeoaa
open Go.AM
/-- what may be: numbers of the ranks' list, the ranks small -/
structure RrOk (rr : List Int) (D : List Int) : Prop where
  rk : ∀ x ∈ rr, -1 ≤ x ∧ x ≤ 1048576
  el : ∀ x ∈ D, 0 ≤ x ∧ x < (rr.length : Int)
set_option maxHeartbeats 4000000 in
theorem insert_ret (rr pre S post : List Int) (N : Nat) (hN : N = (pre ++ S ++ post).length) (hb : N ≤ 1048576) (hok : RrOk rr (pre ++ S ++ post)) (hinc : S.Pairwise (· < ·)) :
    Ret Try.prog 62 [.row 0 N, .int .i64 ((pre.length : Nat) : Int), .int .i64 ((pre.length + S.length : Nat) : Int), cmV] [.row 3 1 N (gU (pre ++ S ++ post)) 0, .cells [eL 1 cI rr]]
      (.tup []) [.row 3 1 N (gU (pre ++ ordF (rkAt rr) S ++ post)) 0, .cells [eL 1 cI rr]] := by
  simp only [List.length_append] at hN
  have e0 : IntKind.i64.wrap (((pre.length : Nat) : Int) + 1) = ((pre.length + 1 : Nat) : Int) := by rw [wi64_id (by omega) (by omega)]; omega
  obtain ⟨rk, el⟩ := hok
  have elS : ∀ x ∈ S, 0 ≤ x ∧ x < (rr.length : Int) := fun x hx => el x (by simp [hx])
  refine ret_of_body atNone tok mixed Try.func62 (by kernel_rfl) rfl (k := 53) (rs := []) (by kernel_rfl) (by kernel_rfl) ?_
  (conv => whnf) <;> repeat' (first | (rw [e0]; conv => whnf) | ((first | refine wN ?_ | refine wNc ?_ | refine wA ?_ | refine wB ?_ | refine wC ?_ | refine wD ?_ | refine vA ?_ | refine vB ?_ | refine vC ?_ | refine vD ?_ | refine uA ?_ | refine uB ?_ | refine uC ?_ | refine uD ?_); conv => whnf) | ((first | apply Pick.dec | apply Pick.beq | apply Cond.dec | apply Cond.beq | apply Cond.nd | apply Pick.nd | apply Pick.mk | apply Cond.mk) <;> intro h <;> conv => whnf))
  intro J jw js
  have outer : ∀ (d k : Nat), k + d = S.length → 1 ≤ k → 0 < S.length →
      J [.row 0 N, .int .i64 ((pre.length : Nat) : Int), .int .i64 ((pre.length + S.length : Nat) : Int), cmV, .und, .und, .und, .und, .int .i64 ((pre.length + k : Nat) : Int), .und, .und, .und, .und, .und, .und, .und, .und, .und, .und, .und, .und, .und, .und, .und, .und, .und, .und, .und, .und, .und, .und, .und, .und, .und, .und, .und, .und, .und, .und, .und, .und, .und, .und, .und, .und, .und, .und, .und, .und, .und, .und, .und, .und] [.row 3 1 N (gU (pre ++ (ordF (rkAt rr) (S.take k) ++ S.drop k) ++ post)) 0, .cells [eL 1 cI rr]] := by
    intro d
    induction d with
    | zero =>
      intro k hk h1 _
      obtain rfl : k = S.length := by omega
      apply js
      conv => whnf
      refine Cond.ff (decF (by omega)) ?_
      rw [List.take_length, List.drop_length, List.append_nil]
      (conv => whnf) <;> repeat' (first | ((first | refine wN ?_ | refine wNc ?_ | refine wA ?_ | refine wB ?_ | refine wC ?_ | refine wD ?_ | refine vA ?_ | refine vB ?_ | refine vC ?_ | refine vD ?_ | refine uA ?_ | refine uB ?_ | refine uC ?_ | refine uD ?_); conv => whnf) | ((first | apply Pick.dec | apply Pick.beq | apply Cond.dec | apply Cond.beq | apply Cond.nd | apply Pick.nd | apply Pick.mk | apply Cond.mk) <;> intro h <;> conv => whnf))
      exact EndH.mk [0, 1] rfl rfl rfl
    | succ d im =>
      intro k hk h1 hS0
      · have hkl : k < S.length := by omega
        have e1 : IntKind.i64.wrap (((pre.length + k : Nat) : Int) + 1) = ((pre.length + (k + 1) : Nat) : Int) := by rw [wi64_id (by omega) (by omega)]; omega
        have im := im (k + 1) (by omega) (by omega) hS0
        have hdrop : S.drop k = S[k] :: S.drop (k + 1) := List.drop_eq_getElem_cons hkl
        have htake : S.take (k + 1) = S.take k ++ [S[k]] := List.take_succ_eq_append_getElem hkl
        have hlt : ∀ a ∈ S.take k, a < S[k] := fun a ha => by
          obtain ⟨i, hi, rfl⟩ := List.mem_iff_getElem.1 ha
          rw [List.getElem_take]
          rw [List.length_take] at hi
          exact List.pairwise_iff_getElem.1 hinc i k (by omega) hkl (by omega)
        have hxr := elS S[k] (List.getElem_mem hkl)
        have elT : ∀ x ∈ S.take k, 0 ≤ x ∧ x < (rr.length : Int) := fun x hx => elS x (List.mem_of_mem_take hx)
        have hol : (ordF (rkAt rr) (S.take k)).length = k := by rw [ordF_len, List.length_take]; omega
        have hso := ordF_sorted (rkAt rr) (S.take k)
        rw [hdrop]
        have hperm := ordF_congr (f := rkAt rr) (l := ordF (rkAt rr) (S.take k) ++ [S[k]]) (m := S.take (k + 1)) (by rw [htake]; exact (ordF_perm _ _).append_right _)
        rw [← hperm] at im
        have hmemO : ∀ a ∈ ordF (rkAt rr) (S.take k), a < S[k] ∧ 0 ≤ a ∧ a < (rr.length : Int) := fun a ha => ⟨hlt a (mem_ordF.1 ha), elT a (mem_ordF.1 ha)⟩
        have hdl : (S.drop (k + 1)).length = S.length - (k + 1) := by simp
        generalize S.drop (k + 1) = R at *
        generalize ordF (rkAt rr) (S.take k) = O at *
        generalize S[k] = x at *
        clear hdrop htake hlt elT hperm
        apply js
        conv => whnf
        refine Cond.tt (decT (by omega)) ?_
        (conv => whnf) <;> repeat' (first | ((first | refine wN ?_ | refine wNc ?_ | refine wA ?_ | refine wB ?_ | refine wC ?_ | refine wD ?_ | refine vA ?_ | refine vB ?_ | refine vC ?_ | refine vD ?_ | refine uA ?_ | refine uB ?_ | refine uC ?_ | refine uD ?_); conv => whnf) | ((first | apply Pick.dec | apply Pick.beq | apply Cond.dec | apply Cond.beq | apply Cond.nd | apply Pick.nd | apply Pick.mk | apply Cond.mk) <;> intro h <;> conv => whnf))
        intro K kw ks
        have inner : ∀ (j : Nat) (A T : List Int), A.length = j → O = A ++ T → (∀ t ∈ T, rkAt rr x < rkAt rr t) →
            K [.row 0 N, .int .i64 ((pre.length : Nat) : Int), .int .i64 ((pre.length + S.length : Nat) : Int), cmV, .und, .und, .und, .und, .int .i64 ((pre.length + k : Nat) : Int), .int .i64 ((pre.length + j : Nat) : Int), .und, .und, .und, .und, .und, .und, .und, .und, .und, .und, .und, .und, .und, .und, .und, .und, .und, .und, .und, .und, .und, .und, .und, .und, .und, .und, .und, .und, .und, .und, .und, .und, .und, .und, .und, .und, .und, .und, .und, .und, .und, .und, .und] [.row 3 1 N (gU (pre ++ (A ++ x :: T ++ R) ++ post)) 0, .cells [eL 1 cI rr]] := by
          -- the place is found
          have found : ∀ (j : Nat) (A T : List Int), A.length = j → O = A ++ T → (∀ t ∈ T, rkAt rr x < rkAt rr t) → (∀ a ∈ A, rkAt rr a ≤ rkAt rr x) → A ++ x :: T = ordF (rkAt rr) (O ++ [x]) := by
            intro j A T hj hO hT hA
            rw [hO]
            exact (ordF_insert (by rw [← hO]; exact hso) hA hT (fun a ha => (hmemO a (by rw [hO]; simp [ha])).1)).symm
          intro j
          induction j with
          | zero =>
            intro A T hA hO hT
            obtain rfl : A = [] := List.eq_nil_of_length_eq_zero hA
            rw [found 0 [] T rfl hO hT (fun a ha => absurd ha (by simp))]
            apply ks
            (conv => whnf) <;> repeat' (first | ((first | refine wN ?_ | refine wNc ?_ | refine wA ?_ | refine wB ?_ | refine wC ?_ | refine wD ?_ | refine vA ?_ | refine vB ?_ | refine vC ?_ | refine vD ?_ | refine uA ?_ | refine uB ?_ | refine uC ?_ | refine uD ?_); conv => whnf) | ((first | apply Pick.dec | apply Pick.beq | apply Cond.dec | apply Cond.beq | apply Cond.nd | apply Pick.nd | apply Pick.mk | apply Cond.mk) <;> intro h <;> conv => whnf))
            rw [e1]
            apply jw [0, 1] [true, true, true, true, false, false, false, false, true] _ _ rfl
            exact im
          | succ j ij =>
            intro A T hA hO hT
            have hne : A ≠ [] := fun h => by rw [h] at hA; cases hA
            obtain ⟨A', y, rfl⟩ : ∃ A' y, A = A' ++ [y] := ⟨A.dropLast, A.getLast hne, (List.dropLast_concat_getLast hne).symm⟩
            have hA' : A'.length = j := by simpa using hA
            have hyO := hmemO y (by rw [hO]; simp)
            have hC := cmp_ret rr x y hxr hyO.2 rk
            have hleA : rkAt rr y ≤ rkAt rr x → ∀ a ∈ A' ++ [y], rkAt rr a ≤ rkAt rr x := fun h a ha => by
              obtain ⟨i, hi, rfl⟩ := List.mem_iff_getElem.1 ha
              have h5 := sortR_rank (f := rkAt rr) (l := A' ++ [y]) (by rw [hO] at hso; exact (List.pairwise_append.1 hso).1) (i := i) (j := j) (by simp at hi; omega) (by simp; omega)
              have h6 : (A' ++ [y])[j]'(by simp; omega) = y := by rw [List.getElem_append_right (by omega)]; simp
              rw [h6] at h5
              omega
            have hOl : O.length = k := hol
            have hTl : j + 1 + T.length = k := by rw [← hOl, hO]; simp; omega
            -- the row
            have hD : pre ++ (A' ++ [y] ++ x :: T ++ R) ++ post = (pre ++ A') ++ y :: ([] ++ x :: (T ++ R ++ post)) := by simp only [List.append_assoc, List.cons_append, List.nil_append]
            have hD2 : (pre ++ A') ++ x :: ([] ++ y :: (T ++ R ++ post)) = pre ++ (A' ++ x :: (y :: T) ++ R) ++ post := by simp only [List.append_assoc, List.cons_append, List.nil_append]
            have hl1 : (pre ++ A').length = pre.length + j := by simp [hA']
            have hl2 : (pre ++ A').length + 1 + ([] : List Int).length = pre.length + (j + 1) := by simp [hA']; omega
            have gy := get_mid (A := pre ++ A') (x := y) (C := [] ++ x :: (T ++ R ++ post))
            have gx := get_mid2 (A := pre ++ A') (B := []) (x := y) (y := x) (C := T ++ R ++ post)
            have s1 := gU_set (L := (pre ++ A') ++ y :: ([] ++ x :: (T ++ R ++ post))) (i := (pre ++ A').length + 1 + ([] : List Int).length) (v := y) (by simp only [List.length_append, List.length_cons, List.length_nil]; omega)
            have s2 := gU_set (L := (pre ++ A') ++ y :: ([] ++ y :: (T ++ R ++ post))) (i := (pre ++ A').length) (v := x) (by simp only [List.length_append, List.length_cons, List.length_nil]; omega)
            rw [set_mid2] at s1
            rw [set_mid] at s2
            rw [hl2] at gx s1
            rw [hl1] at gy s2
            rw [hD2] at s2
            rw [hD]
            have ej : IntKind.i64.wrap (((pre.length + (j + 1) : Nat) : Int) - 1) = ((pre.length + j : Nat) : Int) := by rw [wi64_id (by omega) (by omega)]; omega
            have t1 := toNat_n (pre.length + (j + 1))
            have t2 := toNat_n (pre.length + j)
            by_cases hlt : rkAt rr x < rkAt rr y
            · have ij := ij A' (y :: T) hA' (by rw [hO]; simp) (fun t ht => by
                rcases List.mem_cons.1 ht with rfl | ht
                · exact hlt
                · exact hT t ht)
              have hneg : rkAt rr x - rkAt rr y < 0 := by omega
              generalize rkAt rr x - rkAt rr y = cv at *
              apply ks
              (conv => whnf) <;> repeat' (first | (rw [ej]; conv => whnf) | (rw [t1]; conv => whnf) | (rw [t2]; conv => whnf) | (rw [gx]; conv => whnf) | (rw [gy]; conv => whnf) | (rw [s1]; conv => whnf) | (rw [s2]; conv => whnf) | (refine CalledH.mk [1] _ _ rfl (Nat.le_refl _) hC ?_; conv => whnf) | ((first | refine wN ?_ | refine wNc ?_ | refine wA ?_ | refine wB ?_ | refine wC ?_ | refine wD ?_ | refine vA ?_ | refine vB ?_ | refine vC ?_ | refine vD ?_ | refine uA ?_ | refine uB ?_ | refine uC ?_ | refine uD ?_); conv => whnf) | ((first | apply Pick.dec | apply Pick.beq | apply Cond.dec | apply Cond.beq | apply Cond.nd | apply Pick.nd | apply Pick.mk | apply Cond.mk) <;> intro h <;> conv => whnf))
              try rw [ej]
              apply kw [0, 1] [true, true, true, true, false, false, false, false, true, true] _ _ rfl
              exact ij
            · have hfo := found (j + 1) (A' ++ [y]) T hA hO hT (hleA (by omega))
              have hD3 : (pre ++ A') ++ y :: ([] ++ x :: (T ++ R ++ post)) = pre ++ (ordF (rkAt rr) (O ++ [x]) ++ R) ++ post := by rw [← hfo]; simp only [List.append_assoc, List.cons_append, List.nil_append]
              have hneg : ¬ rkAt rr x - rkAt rr y < 0 := by omega
              generalize rkAt rr x - rkAt rr y = cv at *
              apply ks
              (conv => whnf) <;> repeat' (first | (rw [ej]; conv => whnf) | (rw [t1]; conv => whnf) | (rw [t2]; conv => whnf) | (rw [gx]; conv => whnf) | (rw [gy]; conv => whnf) | (refine CalledH.mk [1] _ _ rfl (Nat.le_refl _) hC ?_; conv => whnf) | ((first | refine wN ?_ | refine wNc ?_ | refine wA ?_ | refine wB ?_ | refine wC ?_ | refine wD ?_ | refine vA ?_ | refine vB ?_ | refine vC ?_ | refine vD ?_ | refine uA ?_ | refine uB ?_ | refine uC ?_ | refine uD ?_); conv => whnf) | ((first | apply Pick.dec | apply Pick.beq | apply Cond.dec | apply Cond.beq | apply Cond.nd | apply Pick.nd | apply Pick.mk | apply Cond.mk) <;> intro h <;> conv => whnf))
              rw [e1]
              apply jw [0, 1] [true, true, true, true, false, false, false, false, true] _ _ rfl
              rw [hD3]
              exact im
        apply kw [0, 1] [true, true, true, true, false, false, false, false, true, true] _ _ rfl
        have := inner k O [] hol (by simp) (fun t ht => absurd ht (by simp))
        rw [show O ++ x :: R = O ++ x :: [] ++ R by simp]
        exact this
  rcases Nat.eq_zero_or_pos S.length with h0 | h0
  · obtain rfl : S = [] := List.eq_nil_of_length_eq_zero h0
    apply jw [0, 1] [true, true, true, true, false, false, false, false, true] _ _ rfl
    apply js
    conv => whnf
    refine Cond.ff (decF (by simp; omega)) ?_
    rw [show ordF (rkAt rr) [] = [] by simp [ordF]]
    (conv => whnf) <;> repeat' (first | ((first | refine wN ?_ | refine wNc ?_ | refine wA ?_ | refine wB ?_ | refine wC ?_ | refine wD ?_ | refine vA ?_ | refine vB ?_ | refine vC ?_ | refine vD ?_ | refine uA ?_ | refine uB ?_ | refine uC ?_ | refine uD ?_); conv => whnf) | ((first | apply Pick.dec | apply Pick.beq | apply Cond.dec | apply Cond.beq | apply Cond.nd | apply Pick.nd | apply Pick.mk | apply Cond.mk) <;> intro h <;> conv => whnf))
    exact EndH.mk [0, 1] rfl rfl rfl
  · apply jw [0, 1] [true, true, true, true, false, false, false, false, true] _ _ rfl
    have h1 : ordF (rkAt rr) (S.take 1) = S.take 1 := ordF_self (by
      cases S with
      | nil => simp
      | cons a t => simp)
    have := outer (S.length - 1) 1 (by omega) (by omega) h0
    rw [h1, List.take_append_drop] at this
    exact this
end Go.Proofs.Ythjgnmpnagmeoaa

