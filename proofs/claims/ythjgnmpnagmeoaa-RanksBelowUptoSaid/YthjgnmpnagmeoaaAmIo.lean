/- The stable sort's parts: symMerge. -/
import Derived.Test.YthjgnmpnagmeoaaAmMk
import Derived.Test.YthjgnmpnagmeoaaAmMl
import Derived.Test.YthjgnmpnagmeoaaAmIf
import Derived.Test.YthjgnmpnagmeoaaAmRowG
import Derived.Test.YthjgnmpnagmeoaaAmHz
set_option linter.unusedVariables false
set_option linter.unusedSimpArgs false
set_option maxRecDepth 100000
namespace Go.Proofs.Ythjgnmpnagmeoaa
open Go.AM
theorem symm_all (rr : List Int) : ∀ sz, SymQ rr sz := by
  intro sz
  induction sz with
  | zero => intro pre U V post N hsz hU hV; omega
  | succ sz ih =>
    intro pre U V post N hsz hU hV hN hb hok hsU hsV hlt
    by_cases hU1 : U.length = 1
    · obtain ⟨x, rfl⟩ : ∃ x, U = [x] := List.length_eq_one_iff.1 hU1
      have e1 : pre ++ [x] ++ V ++ post = pre ++ x :: V ++ post := by simp
      have e2 : [x] ++ V = x :: V := rfl
      have hR := symA_ret rr pre V post x hV N (by rw [← e1]; exact hN) hb (by rw [← e1]; exact hok) hsV (fun v hv => hlt x (by simp) v hv)
      rw [e1, e2]
      exact hR
    · by_cases hV1 : V.length = 1
      · obtain ⟨x, rfl⟩ : ∃ x, V = [x] := List.length_eq_one_iff.1 hV1
        have e1 : pre ++ U ++ [x] ++ post = pre ++ U ++ x :: post := by simp
        have hR := symB_ret rr pre U post x (by omega) N (by rw [← e1]; exact hN) hb (by rw [← e1]; exact hok) hsU (fun u hu => hlt u hu x (by simp))
        rw [e1]
        exact hR
      · have hl : N = pre.length + U.length + V.length + post.length := by rw [hN]; simp only [List.length_append]
        have elU : ∀ t, t < U.length → 0 ≤ U.getD t 0 ∧ U.getD t 0 < (rr.length : Int) := fun t ht => hok.el _ (by have := getD_mem ht; simp only [List.mem_append, this, true_or, or_true])
        have elV : ∀ t, t < V.length → 0 ≤ V.getD t 0 ∧ V.getD t 0 < (rr.length : Int) := fun t ht => hok.el _ (by have := getD_mem ht; simp only [List.mem_append, this, true_or, or_true])
        have mU : ∀ i j, i ≤ j → j < U.length → rkAt rr (U.getD i 0) ≤ rkAt rr (U.getD j 0) := fun i j hij hj => sortR_mono hsU hij hj
        have mV : ∀ i j, i ≤ j → j < V.length → rkAt rr (V.getD i 0) ≤ rkAt rr (V.getD j 0) := fun i j hij hj => sortR_mono hsV hij hj
        have gU' : ∀ t, t < U.length → (pre ++ U ++ V ++ post).getD (pre.length + t) 0 = U.getD t 0 := fun t ht => get_U ht
        have gV' : ∀ t, t < V.length → (pre ++ U ++ V ++ post).getD (pre.length + U.length + t) 0 = V.getD t 0 := fun t ht => get_V ht
        have tl := symTail rr sz ih pre U V post N ((U.length + V.length) / 2) hsz (by omega) (by omega) hN hb hok hsU hsV hlt (by omega) (by omega)
        have hmid : (pre.length + (pre.length + U.length + V.length)) / 2 = pre.length + (U.length + V.length) / 2 := by omega
        by_cases hc : U.length > (U.length + V.length) / 2
        · exact sym_hi rr _ _ pre.length U.length V.length _ N hb (by omega) (by omega) (by omega) hmid hc (fun t => U.getD t 0) (fun t => V.getD t 0) gU' gV' elU elV hok.rk mU mV tl
        · exact sym_lo rr _ _ pre.length U.length V.length _ N hb (by omega) (by omega) (by omega) hmid (by omega) (fun t => U.getD t 0) (fun t => V.getD t 0) gU' gV' elU elV hok.rk mU mV tl
theorem symm_ret (rr pre U V post : List Int) (N : Nat) (hU : 0 < U.length) (hV : 0 < V.length) (hN : N = (pre ++ U ++ V ++ post).length) (hb : N ≤ 1048576) (hok : RrOk rr (pre ++ U ++ V ++ post)) (hsU : SortR (rkAt rr) U) (hsV : SortR (rkAt rr) V) (hlt : ∀ u ∈ U, ∀ v ∈ V, u < v) :
    Ret Try.prog 63 [.row 0 N, .int .i64 ((pre.length : Nat) : Int), .int .i64 ((pre.length + U.length : Nat) : Int), .int .i64 ((pre.length + U.length + V.length : Nat) : Int), cmV] [.row 3 1 N (gU (pre ++ U ++ V ++ post)) 0, .cells [eL 1 cI rr]]
      (.tup []) [.row 3 1 N (gU (pre ++ ordF (rkAt rr) (U ++ V) ++ post)) 0, .cells [eL 1 cI rr]] :=
  symm_all rr (U.length + V.length) pre U V post N (Nat.le_refl _) hU hV hN hb hok hsU hsV hlt
end Go.Proofs.Ythjgnmpnagmeoaa

set_option linter.unusedVariables false
set_option linter.unusedSimpArgs false
set_option maxRecDepth 100000
namespace Go.Proofs.Ythjgnmpnagmeoaa
open Go.AM
theorem ordF_pairR {f : Int → Int} {C1 C2 : List Int} (h : (C1 ++ C2).Pairwise (· < ·)) : ∀ u ∈ ordF f C1, ∀ v ∈ ordF f C2, u < v := fun u hu v hv =>
  (List.pairwise_append.1 h).2.2 u (mem_ordF.1 hu) v (mem_ordF.1 hv)
theorem RrOk.of (rr : List Int) {X A B : List Int} (h : RrOk rr (X ++ A)) (hp : B.Perm A) : RrOk rr (X ++ B) := h.perm (hp.append_left X)
set_option maxHeartbeats 16000000 in
theorem stable_ret (rr D : List Int) (N : Nat) (hN : N = D.length) (hb : N ≤ 1048576) (hok : RrOk rr D) (hinc : D.Pairwise (· < ·)) :
    Ret Try.prog 53 [.row 0 N, .int .i64 ((N : Nat) : Int), cmV] [.row 3 1 N (gU D) 0, .cells [eL 1 cI rr]]
      (.tup []) [.row 3 1 N (gU (ordF (rkAt rr) D)) 0, .cells [eL 1 cI rr]] := by
  refine ret_of_body atNone tok mixed Try.func53 (by kernel_rfl) rfl (k := 63) (rs := []) (by kernel_rfl) (by kernel_rfl) ?_
  (conv => whnf) <;> repeat' (first | ((first | refine wN ?_ | refine wNc ?_ | refine wA ?_ | refine wB ?_ | refine wC ?_ | refine wD ?_ | refine vA ?_ | refine vB ?_ | refine vC ?_ | refine vD ?_ | refine uA ?_ | refine uB ?_ | refine uC ?_ | refine uD ?_); conv => whnf) | ((first | apply Pick.dec | apply Pick.beq | apply Cond.dec | apply Cond.beq | apply Cond.nd | apply Pick.nd | apply Pick.mk | apply Cond.mk) <;> intro h <;> conv => whnf))
  intro J jw js
  have second : ∀ (X Y : List Int), Y.length < 20 → X.length + Y.length = N → Y.Pairwise (· < ·) → RrOk rr (X ++ Y) → (∀ Z, Chunked (rkAt rr) 20 Y Z → Chunked (rkAt rr) 20 D (X ++ Z)) →
      J [.row 0 N, .int .i64 ((N : Nat) : Int), cmV, .und, .und, .und, .int .i64 20, .int .i64 ((X.length : Nat) : Int), .int .i64 ((X.length + 20 : Nat) : Int), .und, .und, .und, .und, .und, .und, .und, .und, .und, .und, .und, .und, .und, .und, .und, .und, .und, .und, .und, .und, .und, .und, .und, .und, .und, .und, .und, .und, .und, .und, .und, .und, .und, .und, .und, .und, .und, .und, .und, .und, .und, .und, .und, .und, .und, .und, .und, .und, .und, .und, .und, .und, .und, .und] [.row 3 1 N (gU (X ++ Y)) 0, .cells [eL 1 cI rr]] := by
    intro X Y hY hl hYs hok' hpre
    have hI := insert_ret rr X Y [] N (by simp only [List.length_append, List.length_nil]; omega) hb (by simpa using hok') hYs
    rw [List.append_nil, List.append_nil, hl] at hI
    have hch := hpre _ (.last (Nat.le_of_lt hY))
    have hEl : (X ++ ordF (rkAt rr) Y).length = N := by rw [List.length_append, ordF_len, hl]
    generalize X ++ ordF (rkAt rr) Y = E0 at *
    apply js
    (conv => whnf) <;> repeat' (first | (refine NeedC.own (CalledH.mk [0, 1] _ _ rfl (by simp) hI ?_); conv => whnf) | ((first | refine wN ?_ | refine wNc ?_ | refine wA ?_ | refine wB ?_ | refine wC ?_ | refine wD ?_ | refine vA ?_ | refine vB ?_ | refine vC ?_ | refine vD ?_ | refine uA ?_ | refine uB ?_ | refine uC ?_ | refine uD ?_); conv => whnf) | ((first | apply Pick.dec | apply Pick.beq | apply Cond.dec | apply Cond.beq | apply Cond.nd | apply Pick.nd | apply Pick.mk | apply Cond.mk) <;> intro h <;> conv => whnf))
    intro K kw ks
    clear hpre jw js hI hok'
    have outer : ∀ (f B : Nat) (E : List Int), N - B ≤ f → 20 ≤ B → B < 2 * 1048576 → Chunked (rkAt rr) B D E →
        K [.row 0 N, .int .i64 ((N : Nat) : Int), cmV, .und, .und, .und, .int .i64 ((B : Nat) : Int), .und, .und, .und, .und, .und, .und, .und, .und, .und, .und, .und, .und, .und, .und, .und, .und, .und, .und, .und, .und, .und, .und, .und, .und, .und, .und, .und, .und, .und, .und, .und, .und, .und, .und, .und, .und, .und, .und, .und, .und, .und, .und, .und, .und, .und, .und, .und, .und, .und, .und, .und, .und, .und, .und, .und, .und] [.row 3 1 N (gU E) 0, .cells [eL 1 cI rr]] := by
      have done : ∀ (B : Nat) (E : List Int), N ≤ B → Chunked (rkAt rr) B D E →
        K [.row 0 N, .int .i64 ((N : Nat) : Int), cmV, .und, .und, .und, .int .i64 ((B : Nat) : Int), .und, .und, .und, .und, .und, .und, .und, .und, .und, .und, .und, .und, .und, .und, .und, .und, .und, .und, .und, .und, .und, .und, .und, .und, .und, .und, .und, .und, .und, .und, .und, .und, .und, .und, .und, .und, .und, .und, .und, .und, .und, .und, .und, .und, .und, .und, .und, .und, .und, .und, .und, .und, .und, .und, .und, .und] [.row 3 1 N (gU E) 0, .cells [eL 1 cI rr]] := by
        intro B E hB hch
        obtain rfl := hch.small (by omega)
        apply ks
        (conv => whnf) <;> repeat' (first | ((first | refine wN ?_ | refine wNc ?_ | refine wA ?_ | refine wB ?_ | refine wC ?_ | refine wD ?_ | refine vA ?_ | refine vB ?_ | refine vC ?_ | refine vD ?_ | refine uA ?_ | refine uB ?_ | refine uC ?_ | refine uD ?_); conv => whnf) | ((first | apply Pick.dec | apply Pick.beq | apply Cond.dec | apply Cond.beq | apply Cond.nd | apply Pick.nd | apply Pick.mk | apply Cond.mk) <;> intro h <;> conv => whnf))
        exact EndH.mk [0, 1] rfl rfl rfl
      intro f
      induction f with
      | zero => intro B E hf h20 hB hch; exact done B E (by omega) hch
      | succ f ih =>
        intro B E hf h20 hB2 hch
        by_cases hBn : N ≤ B
        · exact done B E hBn hch
        · have ih := fun E => ih (2 * B) E (by omega) (by omega) (by omega)
          clear done
          have w1 : IntKind.i64.wrap (2 * ((B : Nat) : Int)) = ((2 * B : Nat) : Int) := by rw [wi64_id (by omega) (by omega)]; omega
          have w2 : IntKind.i64.wrap (((B : Nat) : Int) * 2) = ((2 * B : Nat) : Int) := by rw [wi64_id (by omega) (by omega)]; omega
          have hE : RrOk rr E := hok.perm hch.perm
          have hEl : E.length = N := by rw [hch.perm.length_eq, hN]
          apply ks
          (conv => whnf) <;> repeat' (first | (rw [w1]; conv => whnf) | ((first | refine wN ?_ | refine wNc ?_ | refine wA ?_ | refine wB ?_ | refine wC ?_ | refine wD ?_ | refine vA ?_ | refine vB ?_ | refine vC ?_ | refine vD ?_ | refine uA ?_ | refine uB ?_ | refine uC ?_ | refine uD ?_); conv => whnf) | ((first | apply Pick.dec | apply Pick.beq | apply Cond.dec | apply Cond.beq | apply Cond.nd | apply Pick.nd | apply Pick.mk | apply Cond.mk) <;> intro h <;> conv => whnf))
          intro L lw ls
          have inner : ∀ (g : Nat) (X DY Y : List Int), DY.length ≤ g → X.length + DY.length = N → DY.Pairwise (· < ·) → RrOk rr (X ++ Y) → Chunked (rkAt rr) B DY Y → (∀ Z, Chunked (rkAt rr) (2 * B) DY Z → Chunked (rkAt rr) (2 * B) D (X ++ Z)) →
              L [.row 0 N, .int .i64 ((N : Nat) : Int), cmV, .und, .und, .und, .int .i64 ((B : Nat) : Int), .int .i64 ((X.length : Nat) : Int), .int .i64 ((X.length + 2 * B : Nat) : Int), .und, .und, .und, .und, .und, .und, .und, .und, .und, .und, .und, .und, .und, .und, .und, .und, .und, .und, .und, .und, .und, .und, .und, .und, .und, .und, .und, .und, .und, .und, .und, .und, .und, .und, .und, .und, .und, .und, .und, .und, .und, .und, .und, .und, .und, .und, .und, .und, .und, .und, .und, .und, .und, .und] [.row 3 1 N (gU (X ++ Y)) 0, .cells [eL 1 cI rr]] := by
            have last : ∀ (X DY Y : List Int), DY.length < 2 * B → X.length + DY.length = N → DY.Pairwise (· < ·) → RrOk rr (X ++ Y) → Chunked (rkAt rr) B DY Y → (∀ Z, Chunked (rkAt rr) (2 * B) DY Z → Chunked (rkAt rr) (2 * B) D (X ++ Z)) →
              L [.row 0 N, .int .i64 ((N : Nat) : Int), cmV, .und, .und, .und, .int .i64 ((B : Nat) : Int), .int .i64 ((X.length : Nat) : Int), .int .i64 ((X.length + 2 * B : Nat) : Int), .und, .und, .und, .und, .und, .und, .und, .und, .und, .und, .und, .und, .und, .und, .und, .und, .und, .und, .und, .und, .und, .und, .und, .und, .und, .und, .und, .und, .und, .und, .und, .und, .und, .und, .und, .und, .und, .und, .und, .und, .und, .und, .und, .und, .und, .und, .und, .und, .und, .und, .und, .und, .und, .und] [.row 3 1 N (gU (X ++ Y)) 0, .cells [eL 1 cI rr]] := by
              intro X DY Y hl hX hs hok' hc hpre
              have em : IntKind.i64.wrap (((X.length : Nat) : Int) + ((B : Nat) : Int)) = ((X.length + B : Nat) : Int) := by rw [wi64_id (by omega) (by omega)]; omega
              have ih := ih _ (hpre _ (.last (Nat.le_of_lt hl)))
              by_cases hm : B < DY.length
              · obtain ⟨C, R, rfl, hC, rfl⟩ := hc.mid hm hl
                rw [List.length_append] at hX hl hm
                have hS := symm_ret rr X (ordF (rkAt rr) C) (ordF (rkAt rr) R) [] N (by rw [ordF_len]; omega) (by rw [ordF_len]; omega) (by simp only [List.length_append, ordF_len, List.length_nil]; omega) hb (by simpa [List.append_assoc] using hok') (ordF_sorted _ _) (ordF_sorted _ _) (ordF_pairR hs)
                rw [ordF_congr ((ordF_perm (rkAt rr) C).append (ordF_perm (rkAt rr) R)), List.append_nil, List.append_nil, ordF_len, ordF_len, hC, show X.length + B + R.length = N by omega, List.append_assoc] at hS
                generalize X ++ ordF (rkAt rr) (C ++ R) = E1 at *
                generalize X ++ (ordF (rkAt rr) C ++ ordF (rkAt rr) R) = E2 at *
                clear lw hpre hc
                apply ls
                (conv => whnf) <;> repeat' (first | (rw [em]; conv => whnf) | (refine NeedC.own (CalledH.mk [0, 1] _ _ rfl (by simp) hS ?_); conv => whnf) | ((first | refine wN ?_ | refine wNc ?_ | refine wA ?_ | refine wB ?_ | refine wC ?_ | refine wD ?_ | refine vA ?_ | refine vB ?_ | refine vC ?_ | refine vD ?_ | refine uA ?_ | refine uB ?_ | refine uC ?_ | refine uD ?_); conv => whnf) | ((first | apply Pick.dec | apply Pick.beq | apply Cond.dec | apply Cond.beq | apply Cond.nd | apply Pick.nd | apply Pick.mk | apply Cond.mk) <;> intro h <;> conv => whnf))
                rw [w2]
                apply kw [0, 1] [true, true, true, false, false, false, true] _ _ rfl
                exact ih
              · obtain rfl := hc.small (by omega)
                generalize X ++ ordF (rkAt rr) DY = E1 at *
                clear lw hpre hc
                apply ls
                (conv => whnf) <;> repeat' (first | (rw [em]; conv => whnf) | ((first | refine wN ?_ | refine wNc ?_ | refine wA ?_ | refine wB ?_ | refine wC ?_ | refine wD ?_ | refine vA ?_ | refine vB ?_ | refine vC ?_ | refine vD ?_ | refine uA ?_ | refine uB ?_ | refine uC ?_ | refine uD ?_); conv => whnf) | ((first | apply Pick.dec | apply Pick.beq | apply Cond.dec | apply Cond.beq | apply Cond.nd | apply Pick.nd | apply Pick.mk | apply Cond.mk) <;> intro h <;> conv => whnf))
                rw [w2]
                apply kw [0, 1] [true, true, true, false, false, false, true] _ _ rfl
                exact ih
            intro g
            induction g with
            | zero => intro X DY Y hg; exact last X DY Y (by omega)
            | succ g ig =>
              intro X DY Y hg hX hs hok' hc hpre
              by_cases hlt : DY.length < 2 * B
              · exact last X DY Y hlt hX hs hok' hc hpre
              · clear last
                obtain ⟨C1, C2, R, R', rfl, hC1, hC2, rfl, hR⟩ := hc.two (by omega) (by omega)
                have hRl := hR.perm.length_eq
                rw [List.length_append, List.length_append] at hX hg hlt
                have hs' := (List.pairwise_append.1 hs)
                have hp1 := (ordF_perm (rkAt rr) C1).append (ordF_perm (rkAt rr) C2)
                have hS := symm_ret rr X (ordF (rkAt rr) C1) (ordF (rkAt rr) C2) R' N (by rw [ordF_len]; omega) (by rw [ordF_len]; omega) (by simp only [List.length_append, ordF_len]; omega) hb (by simpa [List.append_assoc] using hok') (ordF_sorted _ _) (ordF_sorted _ _) (ordF_pairR hs'.1)
                rw [ordF_congr hp1, ordF_len, ordF_len, hC1, hC2] at hS
                have hlC : (C1 ++ C2).length = 2 * B := by rw [List.length_append]; omega
                have ig := ig (X ++ ordF (rkAt rr) (C1 ++ C2)) R R' (by omega) (by rw [List.length_append, ordF_len, hlC]; omega) hs'.2.1 (by
                  have := hok'.perm (D' := X ++ ordF (rkAt rr) (C1 ++ C2) ++ R') (by
                    rw [List.append_assoc]
                    exact ((((ordF_perm (rkAt rr) (C1 ++ C2)).trans hp1.symm).append_right R').append_left X))
                  exact this) hR (fun Z hZ => by
                  have := hpre (ordF (rkAt rr) (C1 ++ C2) ++ Z) (.cons hlC hZ)
                  rwa [← List.append_assoc] at this)
                have hl2 : (X ++ ordF (rkAt rr) (C1 ++ C2)).length = X.length + 2 * B := by rw [List.length_append, ordF_len, hlC]
                rw [hl2] at ig
                have e5 : X ++ (ordF (rkAt rr) C1 ++ ordF (rkAt rr) C2 ++ R') = X ++ ordF (rkAt rr) C1 ++ ordF (rkAt rr) C2 ++ R' := by simp only [List.append_assoc]
                rw [e5]
                have eb : IntKind.i64.wrap (((X.length + 2 * B : Nat) : Int) + ((2 * B : Nat) : Int)) = ((X.length + 2 * B + 2 * B : Nat) : Int) := by rw [wi64_id (by omega) (by omega)]; omega
                have em : IntKind.i64.wrap (((X.length : Nat) : Int) + ((B : Nat) : Int)) = ((X.length + B : Nat) : Int) := by rw [wi64_id (by omega) (by omega)]; omega
                rw [show X.length + B + B = X.length + 2 * B by omega] at hS
                generalize X ++ ordF (rkAt rr) (C1 ++ C2) ++ R' = E1 at *
                generalize X ++ ordF (rkAt rr) C1 ++ ordF (rkAt rr) C2 ++ R' = E2 at *
                clear hpre hc ih
                apply ls
                (conv => whnf) <;> repeat' (first | (rw [em]; conv => whnf) | (rw [w1]; conv => whnf) | (rw [eb]; conv => whnf) | (refine NeedC.own (CalledH.mk [0, 1] _ _ rfl (by simp) hS ?_); conv => whnf) | ((first | refine wN ?_ | refine wNc ?_ | refine wA ?_ | refine wB ?_ | refine wC ?_ | refine wD ?_ | refine vA ?_ | refine vB ?_ | refine vC ?_ | refine vD ?_ | refine uA ?_ | refine uB ?_ | refine uC ?_ | refine uD ?_); conv => whnf) | ((first | apply Pick.dec | apply Pick.beq | apply Cond.dec | apply Cond.beq | apply Cond.nd | apply Pick.nd | apply Pick.mk | apply Cond.mk) <;> intro h <;> conv => whnf))
                try rw [w1]
                try rw [eb]
                apply lw [0, 1] [true, true, true, false, false, false, true, true, true] _ _ rfl
                exact ig
          apply lw [0, 1] [true, true, true, false, false, false, true, true, true] _ _ rfl
          have := inner D.length [] D E (Nat.le_refl _) (by simp [hN]) hinc (by simpa using hE) hch (fun Z h => by simpa using h)
          rw [show ([] : List Int).length + 2 * B = 2 * B by simp] at this
          exact this
    apply kw [0, 1] [true, true, true, false, false, false, true] _ _ rfl
    exact outer N 20 E0 (by omega) (by omega) (by omega) hch
  have first : ∀ (f : Nat) (X Y : List Int), Y.length ≤ f → X.length + Y.length = N → Y.Pairwise (· < ·) → RrOk rr (X ++ Y) → (∀ Z, Chunked (rkAt rr) 20 Y Z → Chunked (rkAt rr) 20 D (X ++ Z)) →
      J [.row 0 N, .int .i64 ((N : Nat) : Int), cmV, .und, .und, .und, .int .i64 20, .int .i64 ((X.length : Nat) : Int), .int .i64 ((X.length + 20 : Nat) : Int), .und, .und, .und, .und, .und, .und, .und, .und, .und, .und, .und, .und, .und, .und, .und, .und, .und, .und, .und, .und, .und, .und, .und, .und, .und, .und, .und, .und, .und, .und, .und, .und, .und, .und, .und, .und, .und, .und, .und, .und, .und, .und, .und, .und, .und, .und, .und, .und, .und, .und, .und, .und, .und, .und] [.row 3 1 N (gU (X ++ Y)) 0, .cells [eL 1 cI rr]] := by
    intro f
    induction f with
    | zero => intro X Y hf; exact second X Y (by omega)
    | succ f ih =>
      intro X Y hf hl hs hok' hpre
      by_cases h : Y.length < 20
      · exact second X Y h hl hs hok' hpre
      · clear second
        have hS : (Y.take 20).length = 20 := by rw [List.length_take]; omega
        have hT : (Y.drop 20).length = Y.length - 20 := List.length_drop ..
        have hYY : Y.take 20 ++ Y.drop 20 = Y := List.take_append_drop ..
        have hs' := hs
        rw [← hYY] at hs'
        have hs' := List.pairwise_append.1 hs'
        have hI := insert_ret rr X (Y.take 20) (Y.drop 20) N (by simp only [List.length_append]; omega) hb (by rw [List.append_assoc, hYY]; exact hok') hs'.1
        have ih := ih (X ++ ordF (rkAt rr) (Y.take 20)) (Y.drop 20) (by omega) (by rw [List.length_append, ordF_len]; omega) hs'.2.1 (by
          have h9 := hok'.perm (D' := X ++ (ordF (rkAt rr) (Y.take 20) ++ Y.drop 20)) (by
            refine List.Perm.append_left X ?_
            have := (ordF_perm (rkAt rr) (Y.take 20)).append_right (Y.drop 20)
            rwa [hYY] at this)
          rwa [← List.append_assoc] at h9) (fun Z hZ => by
          have := hpre (ordF (rkAt rr) (Y.take 20) ++ Z) (by
            have h9 := Chunked.cons hS hZ
            rwa [hYY] at h9)
          rwa [← List.append_assoc] at this)
        have hl2 : (X ++ ordF (rkAt rr) (Y.take 20)).length = X.length + 20 := by rw [List.length_append, ordF_len, hS]
        rw [hl2] at ih
        rw [List.append_assoc X (Y.take 20), hYY, hS] at hI
        have eb : IntKind.i64.wrap (((X.length + 20 : Nat) : Int) + 20) = ((X.length + 20 + 20 : Nat) : Int) := by rw [wi64_id (by omega) (by omega)]; omega
        generalize X ++ ordF (rkAt rr) (Y.take 20) ++ Y.drop 20 = E1 at *
        generalize X ++ Y = E2 at *
        clear hpre
        apply js
        (conv => whnf) <;> repeat' (first | (rw [eb]; conv => whnf) | (refine NeedC.own (CalledH.mk [0, 1] _ _ rfl (by simp) hI ?_); conv => whnf) | ((first | refine wN ?_ | refine wNc ?_ | refine wA ?_ | refine wB ?_ | refine wC ?_ | refine wD ?_ | refine vA ?_ | refine vB ?_ | refine vC ?_ | refine vD ?_ | refine uA ?_ | refine uB ?_ | refine uC ?_ | refine uD ?_); conv => whnf) | ((first | apply Pick.dec | apply Pick.beq | apply Cond.dec | apply Cond.beq | apply Cond.nd | apply Pick.nd | apply Pick.mk | apply Cond.mk) <;> intro h <;> conv => whnf))
        try rw [eb]
        apply jw [0, 1] [true, true, true, false, false, false, true, true, true] _ _ rfl
        exact ih
  apply jw [0, 1] [true, true, true, false, false, false, true, true, true] _ _ rfl
  have := first D.length [] D (Nat.le_refl _) (by simp [hN]) hinc (by simpa using hok) (fun Z h => by simpa using h)
  exact this
end Go.Proofs.Ythjgnmpnagmeoaa

set_option linter.unusedVariables false
set_option linter.unusedSimpArgs false
set_option maxRecDepth 100000
namespace Go.Proofs.Ythjgnmpnagmeoaa
open Go.AM
theorem sortS_ret (rr D : List Int) (N : Nat) (hN : N = D.length) (hb : N ≤ 1048576) (hok : RrOk rr D) (hinc : D.Pairwise (· < ·)) :
    Ret Try.prog 34 [.row 0 N, cmV] [.row 3 1 N (getL cI D) 0, .cells [eL 1 cI rr]]
      (.tup []) [.row 3 1 N (gU (ordF (rkAt rr) D)) 0, .cells [eL 1 cI rr]] := by
  have hS := stable_ret rr D N hN hb hok hinc
  have hg := gU_ext D
  have key : Ret Try.prog 34 [.row 0 N, cmV] [.row 3 1 N (gU D) 0, .cells [eL 1 cI rr]]
      (.tup []) [.row 3 1 N (gU (ordF (rkAt rr) D)) 0, .cells [eL 1 cI rr]] := by
    generalize ordF (rkAt rr) D = E1 at *
    refine ret_of_body atNone tok mixed Try.func34 (by kernel_rfl) rfl (k := 9) (rs := []) (by kernel_rfl) (by kernel_rfl) ?_
    (conv => whnf) <;> repeat' (first | (refine NeedC.own (CalledH.mk [0, 1] _ _ rfl (by simp) hS ?_); conv => whnf) | ((first | refine wN ?_ | refine wNc ?_ | refine wA ?_ | refine wB ?_ | refine wC ?_ | refine wD ?_ | refine vA ?_ | refine vB ?_ | refine vC ?_ | refine vD ?_ | refine uA ?_ | refine uB ?_ | refine uC ?_ | refine uD ?_); conv => whnf) | ((first | apply Pick.dec | apply Pick.beq | apply Cond.dec | apply Cond.beq | apply Cond.nd | apply Pick.nd | apply Pick.mk | apply Cond.mk) <;> intro h <;> conv => whnf))
    exact EndH.mk [0, 1] rfl rfl rfl
  refine key.inG fun i hi => ?_
  unfold gU
  rw [List.getD_eq_getElem?_getD, List.getElem?_eq_getElem (by omega : i < D.length)]
  exact getL_at (List.getElem?_eq_getElem (by omega))
abbrev cmV0 : Val := .fn 35 [] [.ptr 0 0]
theorem insert_nil (rr : List Int) : Ret Try.prog 62 [.nils, .int .i64 0, .int .i64 0, cmV0] [.cells [eL 1 cI rr]] (.tup []) [.cells [eL 1 cI rr]] := by
  refine ret_of_body atNone tok mixed Try.func62 (by kernel_rfl) rfl (k := 53) (rs := []) (by kernel_rfl) (by kernel_rfl) ?_
  (conv => whnf) <;> repeat' (first | ((first | refine wN ?_ | refine wNc ?_ | refine wA ?_ | refine wB ?_ | refine wC ?_ | refine wD ?_ | refine vA ?_ | refine vB ?_ | refine vC ?_ | refine vD ?_ | refine uA ?_ | refine uB ?_ | refine uC ?_ | refine uD ?_); conv => whnf) | ((first | apply Pick.dec | apply Pick.beq | apply Cond.dec | apply Cond.beq | apply Cond.nd | apply Pick.nd | apply Pick.mk | apply Cond.mk) <;> intro h <;> conv => whnf))
  intro J jw js
  apply jw [0] [true, true, true, false, false, false, false, false, true] _ _ rfl
  apply js
  (conv => whnf) <;> repeat' (first | ((first | refine wN ?_ | refine wNc ?_ | refine wA ?_ | refine wB ?_ | refine wC ?_ | refine wD ?_ | refine vA ?_ | refine vB ?_ | refine vC ?_ | refine vD ?_ | refine uA ?_ | refine uB ?_ | refine uC ?_ | refine uD ?_); conv => whnf) | ((first | apply Pick.dec | apply Pick.beq | apply Cond.dec | apply Cond.beq | apply Cond.nd | apply Pick.nd | apply Pick.mk | apply Cond.mk) <;> intro h <;> conv => whnf))
  exact EndH.mk [0] rfl rfl rfl
theorem stable_nil (rr : List Int) : Ret Try.prog 53 [.nils, .int .i64 0, cmV0] [.cells [eL 1 cI rr]] (.tup []) [.cells [eL 1 cI rr]] := by
  have hI := insert_nil rr
  refine ret_of_body atNone tok mixed Try.func53 (by kernel_rfl) rfl (k := 63) (rs := []) (by kernel_rfl) (by kernel_rfl) ?_
  (conv => whnf) <;> repeat' (first | ((first | refine wN ?_ | refine wNc ?_ | refine wA ?_ | refine wB ?_ | refine wC ?_ | refine wD ?_ | refine vA ?_ | refine vB ?_ | refine vC ?_ | refine vD ?_ | refine uA ?_ | refine uB ?_ | refine uC ?_ | refine uD ?_); conv => whnf) | ((first | apply Pick.dec | apply Pick.beq | apply Cond.dec | apply Cond.beq | apply Cond.nd | apply Pick.nd | apply Pick.mk | apply Cond.mk) <;> intro h <;> conv => whnf))
  intro J jw js
  apply jw [0] [true, true, true, false, false, false, true, true, true] _ _ rfl
  apply js
  (conv => whnf) <;> repeat' (first | (refine CalledH.mk [0] _ _ rfl (Nat.le_refl _) hI ?_; conv => whnf) | ((first | refine wN ?_ | refine wNc ?_ | refine wA ?_ | refine wB ?_ | refine wC ?_ | refine wD ?_ | refine vA ?_ | refine vB ?_ | refine vC ?_ | refine vD ?_ | refine uA ?_ | refine uB ?_ | refine uC ?_ | refine uD ?_); conv => whnf) | ((first | apply Pick.dec | apply Pick.beq | apply Cond.dec | apply Cond.beq | apply Cond.nd | apply Pick.nd | apply Pick.mk | apply Cond.mk) <;> intro h <;> conv => whnf))
  intro K kw ks
  apply kw [0] [true, true, true, false, false, false, true] _ _ rfl
  apply ks
  (conv => whnf) <;> repeat' (first | ((first | refine wN ?_ | refine wNc ?_ | refine wA ?_ | refine wB ?_ | refine wC ?_ | refine wD ?_ | refine vA ?_ | refine vB ?_ | refine vC ?_ | refine vD ?_ | refine uA ?_ | refine uB ?_ | refine uC ?_ | refine uD ?_); conv => whnf) | ((first | apply Pick.dec | apply Pick.beq | apply Cond.dec | apply Cond.beq | apply Cond.nd | apply Pick.nd | apply Pick.mk | apply Cond.mk) <;> intro h <;> conv => whnf))
  exact EndH.mk [0] rfl rfl rfl
theorem sortS_nil (rr : List Int) : Ret Try.prog 34 [.nils, cmV0] [.cells [eL 1 cI rr]] (.tup []) [.cells [eL 1 cI rr]] := by
  have hS := stable_nil rr
  refine ret_of_body atNone tok mixed Try.func34 (by kernel_rfl) rfl (k := 9) (rs := []) (by kernel_rfl) (by kernel_rfl) ?_
  (conv => whnf) <;> repeat' (first | (refine CalledH.mk [0] _ _ rfl (Nat.le_refl _) hS ?_; conv => whnf) | ((first | refine wN ?_ | refine wNc ?_ | refine wA ?_ | refine wB ?_ | refine wC ?_ | refine wD ?_ | refine vA ?_ | refine vB ?_ | refine vC ?_ | refine vD ?_ | refine uA ?_ | refine uB ?_ | refine uC ?_ | refine uD ?_); conv => whnf) | ((first | apply Pick.dec | apply Pick.beq | apply Cond.dec | apply Cond.beq | apply Cond.nd | apply Pick.nd | apply Pick.mk | apply Cond.mk) <;> intro h <;> conv => whnf))
  exact EndH.mk [0] rfl rfl rfl
theorem ordF_cong {f g : Int → Int} {l : List Int} (h : ∀ x ∈ l, f x = g x) : ordF f l = ordF g l := by
  refine ordF_eq ?_ (ordF_perm g l)
  refine List.Pairwise.imp_of_mem ?_ (ordF_sorted g l)
  intro a b ha hb hab
  rw [leR_iff] at hab ⊢
  rw [h a (mem_ordF.1 ha), h b (mem_ordF.1 hb)]
  exact hab
set_option maxHeartbeats 4000000 in
theorem order_go (l : List Se) (M : Nat) (hM : M ≤ 1048576) (rr : List Int) (hR : Ret Try.prog 14 [eL 5 cSe l] [] (.tup [eL 1 cI rr, .int .i64 0]) []) (hrl : rr.length = M) (hok : RrOk rr (zeroTo M)) (vt : Val) (ht : List Blk)
    (h0 : M = 0 → vt = .tup [.nils, .int .i64 0] ∧ ht = []) (h1 : 0 < M → vt = .tup [.row 0 M, .int .i64 0] ∧ ht = [.row 3 1 M (gU (ordF (rkAt rr) (zeroTo M))) 0]) :
    Ret Try.prog 11 [eL 5 cSe l] [] vt ht := by
  have hrl' : ((rr.length : Nat) : Int) = (M : Int) := by rw [hrl]
  refine ret_of_body atNone tok mixed Try.func11 (by kernel_rfl) rfl (k := 30) (rs := [.tmp 2, .tmp 3]) (by kernel_rfl) (by kernel_rfl) ?_
  (conv => whnf) <;> repeat' (first | (rw [hrl']; conv => whnf) | ((first | refine wN ?_ | refine wNc ?_ | refine wA ?_ | refine wB ?_ | refine wC ?_ | refine wD ?_ | refine Called.mk _ _ (hR) ?_ | refine vA ?_ | refine vB ?_ | refine vC ?_ | refine vD ?_ | refine uA ?_ | refine uB ?_ | refine uC ?_ | refine uD ?_); conv => whnf) | ((first | apply Pick.dec | apply Pick.beq | apply Cond.dec | apply Cond.beq | apply Cond.nd | apply Pick.nd | apply Pick.mk | apply Cond.mk) <;> intro h <;> conv => whnf))
  intro J jw js
  have turn : ∀ (d k : Nat), k + d = M →
      (k = 0 → J [.und, .und, .und, .und, .ptr 0 0, .und, .nils, .und, .und, .und, .und, .und, .und, .und, .und, .und, .und, .int .i64 ((M : Nat) : Int), .int .i64 (k : Int), .und, .und, .und, .und, .und, .und, .und, .und, .und, .und, .und] [.cells [eL 1 cI rr]]) ∧
      (0 < k → J [.und, .und, .und, .und, .ptr 0 0, .und, .row 1 k, .und, .und, .und, .und, .und, .und, .und, .und, .und, .und, .int .i64 ((M : Nat) : Int), .int .i64 (k : Int), .und, .und, .und, .und, .und, .und, .und, .und, .und, .und, .und] [.cells [eL 1 cI rr], .row 3 1 k (getL cI (zeroTo k)) 0]) := by
    intro d
    induction d with
    | zero =>
      intro k hk
      obtain rfl : k = M := by omega
      refine ⟨fun hn => ?_, fun hn => ?_⟩
      · obtain ⟨rfl, rfl⟩ := h0 hn
        have hS := sortS_nil rr
        subst hn
        apply js
        (conv => whnf) <;> repeat' (first | (refine CalledH.mk [0] _ _ rfl (Nat.le_refl _) hS ?_; conv => whnf) | ((first | refine wN ?_ | refine wNc ?_ | refine wA ?_ | refine wB ?_ | refine wC ?_ | refine wD ?_ | refine vA ?_ | refine vB ?_ | refine vC ?_ | refine vD ?_ | refine uA ?_ | refine uB ?_ | refine uC ?_ | refine uD ?_); conv => whnf) | ((first | apply Pick.dec | apply Pick.beq | apply Cond.dec | apply Cond.beq | apply Cond.nd | apply Pick.nd | apply Pick.mk | apply Cond.mk) <;> intro h <;> conv => whnf))
        exact End.mk rfl rfl
      · obtain ⟨rfl, rfl⟩ := h1 hn
        have hS := sortS_ret rr (zeroTo k) k (zeroTo_len k).symm hM hok (zeroTo_lt k)
        generalize ordF (rkAt rr) (zeroTo k) = E1 at *
        apply js
        (conv => whnf) <;> repeat' (first | (refine NeedC.own (CalledH.mk [1, 0] _ _ rfl (by simp) hS ?_); conv => whnf) | ((first | refine wN ?_ | refine wNc ?_ | refine wA ?_ | refine wB ?_ | refine wC ?_ | refine wD ?_ | refine vA ?_ | refine vB ?_ | refine vC ?_ | refine vD ?_ | refine uA ?_ | refine uB ?_ | refine uC ?_ | refine uD ?_); conv => whnf) | ((first | apply Pick.dec | apply Pick.beq | apply Cond.dec | apply Cond.beq | apply Cond.nd | apply Pick.nd | apply Pick.mk | apply Cond.mk) <;> intro h <;> conv => whnf))
        exact EndH.mk [1] rfl rfl rfl
    | succ d im =>
      intro k hk
      have im := (im (k + 1) (by omega)).2 (by omega)
      have e1 : IntKind.i64.wrap ((k : Int) + 1) = ((k + 1 : Nat) : Int) := by rw [wi64_id (by omega) (by omega)]; omega
      have hz : zeroTo (k + 1) = zeroTo k ++ [(k : Int)] := by simp [zeroTo, List.range_succ]
      have hzl := zeroTo_len k
      rw [hz] at im
      refine ⟨fun hn => ?_, fun hn => ?_⟩
      · subst hn
        apply js
        (conv => whnf) <;> repeat' (first | (rw [getI_one]; conv => whnf) | ((first | refine wN ?_ | refine wNc ?_ | refine wA ?_ | refine wB ?_ | refine wC ?_ | refine wD ?_ | refine vA ?_ | refine vB ?_ | refine vC ?_ | refine vD ?_ | refine uA ?_ | refine uB ?_ | refine uC ?_ | refine uD ?_); conv => whnf) | ((first | apply Pick.dec | apply Pick.beq | apply Cond.dec | apply Cond.beq | apply Cond.nd | apply Pick.nd | apply Pick.mk | apply Cond.mk) <;> intro h <;> conv => whnf))
        rw [e1]
        apply jw [0, 2] [false, false, false, false, true, false, true, false, false, false, false, false, false, false, false, false, false, true, true] _ _ rfl
        exact im
      · generalize hZ : zeroTo k = Z at *
        subst hzl
        apply js
        (conv => whnf) <;> repeat' (first | (rw [getI_snoc]; conv => whnf) | ((first | refine wN ?_ | refine wNc ?_ | refine wA ?_ | refine wB ?_ | refine wC ?_ | refine wD ?_ | refine vA ?_ | refine vB ?_ | refine vC ?_ | refine vD ?_ | refine uA ?_ | refine uB ?_ | refine uC ?_ | refine uD ?_); conv => whnf) | ((first | apply Pick.dec | apply Pick.beq | apply Cond.dec | apply Cond.beq | apply Cond.nd | apply Pick.nd | apply Pick.mk | apply Cond.mk) <;> intro h <;> conv => whnf))
        rw [e1]
        apply jw [0, 3] [false, false, false, false, true, false, true, false, false, false, false, false, false, false, false, false, false, true, true] _ _ rfl
        exact im
  apply jw [0] [false, false, false, false, true, false, true, false, false, false, false, false, false, false, false, false, false, true, true] _ _ rfl
  exact (turn M 0 (by omega)).1 rfl
theorem order_ret (l : List Se) (hL : LOk l) : Ret Try.prog 11 [eL 5 cSe l] [] (.tup [eL 1 cI (orderF (graphF l)).1, .int .i64 (orderF (graphF l)).2]) [] := by
  have hR := ranks_ret l hL
  have hm := hL.many
  have hfh := fun (h : ¬ (rankE (graphF l)).length < manyN l) (k : Int) => full_has (g := graphF l) (by rw [graphF_len]; exact h) (k := k)
  unfold ranksF at hR
  unfold orderF
  rw [graphF_len] at hR ⊢
  rw [graphF_len] at hfh
  by_cases h : (rankE (graphF l)).length < manyN l
  · rw [if_pos h] at hR ⊢
    have hg : Ret Try.prog 11 [eL 5 cSe l] [] (.tup [.nils, .int .i64 110]) [] := by
      refine ret_of_body atNone tok mixed Try.func11 (by kernel_rfl) rfl (k := 30) (rs := [.tmp 2, .tmp 3]) (by kernel_rfl) (by kernel_rfl) ?_
      (conv => whnf) <;> repeat' (first | ((first | refine wN ?_ | refine wNc ?_ | refine wA ?_ | refine wB ?_ | refine wC ?_ | refine wD ?_ | refine Called.mk _ _ (hR) ?_ | refine vA ?_ | refine vB ?_ | refine vC ?_ | refine vD ?_ | refine uA ?_ | refine uB ?_ | refine uC ?_ | refine uD ?_); conv => whnf) | ((first | apply Pick.dec | apply Pick.beq | apply Cond.dec | apply Cond.beq | apply Cond.nd | apply Pick.nd | apply Pick.mk | apply Cond.mk) <;> intro h <;> conv => whnf))
      exact End.mk rfl rfl
    exact hg.leR (le_tup (.cons le_nils (.cons (.refl _) .nil)))
  · rw [if_neg h] at hR ⊢
    have hfh := hfh h
    have hat : ∀ k : Int, 0 ≤ k → k < ((manyN l : Nat) : Int) → rkAt (rOf (manyN l) (rankE (graphF l))) k = rkOf (rankE (graphF l)) k := fun k h0 h1 => by
      unfold rkAt
      have hl : k.toNat < (rOf (manyN l) (rankE (graphF l))).length := by rw [rOf_len]; omega
      rw [List.getD_eq_getElem?_getD, List.getElem?_eq_getElem hl, Option.getD_some, rOf_at hl]
      congr 1
      omega
    have hok : RrOk (rOf (manyN l) (rankE (graphF l))) (zeroTo (manyN l)) := ⟨fun x hx => by
      obtain ⟨k, hk, rfl⟩ := List.mem_map.1 hx
      have hk := mem_zeroTo.1 hk
      obtain ⟨v, hv, h2, h3⟩ := hfh k hk.1 hk.2
      unfold rkOf
      rw [hv]
      show -1 ≤ v ∧ v ≤ 1048576
      omega, fun x hx => by rw [rOf_len]; exact mem_zeroTo.1 hx⟩
    have hgo := order_go l (manyN l) hm (rOf (manyN l) (rankE (graphF l))) hR (rOf_len _ _) hok
    rw [ordF_cong (f := rkAt (rOf (manyN l) (rankE (graphF l)))) (g := rkOf (rankE (graphF l))) (l := zeroTo (manyN l)) (fun x hx => hat x (mem_zeroTo.1 hx).1 (mem_zeroTo.1 hx).2)] at hgo
    show Ret _ _ _ _ (.tup [eL 1 cI (ordF (rkOf (rankE (graphF l))) (zeroTo (manyN l))), .int .i64 0]) _
    have hel : (ordF (rkOf (rankE (graphF l))) (zeroTo (manyN l))).length = manyN l := by rw [ordF_len, zeroTo_len]
    rcases Nat.eq_zero_or_pos (manyN l) with he | he
    · have hg := hgo _ _ (fun _ => ⟨rfl, rfl⟩) (fun k => by omega)
      rw [List.eq_nil_of_length_eq_zero (hel.trans he)]
      exact hg.leR (le_tup (.cons le_nils (.cons (.refl _) .nil)))
    · have hg := hgo _ _ (fun k => by omega) (fun _ => ⟨rfl, rfl⟩)
      have hx := gU_ext (ordF (rkOf (rankE (graphF l))) (zeroTo (manyN l)))
      rw [hel] at hx
      have h2 : Ret Try.prog 11 [eL 5 cSe l] [] (.tup [.ext 1 (manyN l) (gU (ordF (rkOf (rankE (graphF l))) (zeroTo (manyN l)))), .int .i64 0]) [] := hg.lendT ⟨rfl, Nat.le_refl _, Nat.le_refl _⟩ rfl
      exact h2.leR (le_tup (.cons (le_extL hx) (.cons (.refl _) .nil)))
end Go.Proofs.Ythjgnmpnagmeoaa

set_option linter.unusedVariables false
set_option linter.unusedSimpArgs false
set_option maxRecDepth 100000
namespace Go.Proofs.Ythjgnmpnagmeoaa
open Go.AM
/-- how many nodes the law counts (what it adds turns round) -/
def sizeN : Nat → Xp → Int
  | 0, _ => 1000
  | d + 1, x => x.args.foldl (fun a y => IntKind.i64.wrap (a + sizeN d y)) 1
theorem fold_take {α : Type} (f : Int → α → Int) (l : List α) (a : Int) {i : Nat} (h : i < l.length) : (l.take (i + 1)).foldl f a = f ((l.take i).foldl f a) l[i] := by
  rw [List.take_succ_eq_append_getElem h, List.foldl_append]; rfl
theorem size_ret : ∀ (dp : Nat), dp ≤ 60 → ∀ x : Xp, x.Wf → Ret Try.prog 32 [eE x, .int .i64 ((dp : Nat) : Int)] [] (.int .i64 (sizeN dp x)) [] := by
  intro dp
  have hm : maxLen ≤ 9223372036854775807 := by decide
  induction dp with
  | zero =>
    intro _ x _
    obtain ⟨k, o, n, s, v, sc, p, l⟩ := x
    rw [cE_mk]
    refine ret_of_body atCalls tok mixed Try.func32 (by kernel_rfl) rfl (k := 25) (rs := [.tmp 4]) (by kernel_rfl) (by kernel_rfl) ?_
    (conv => whnf) <;> repeat' (first | ((first | refine wN ?_ | refine wNc ?_ | refine wA ?_ | refine wB ?_ | refine wC ?_ | refine wD ?_ | refine vA ?_ | refine vB ?_ | refine vC ?_ | refine vD ?_ | refine uA ?_ | refine uB ?_ | refine uC ?_ | refine uD ?_); conv => whnf) | ((first | apply Pick.dec | apply Pick.beq | apply Cond.dec | apply Cond.beq | apply Cond.nd | apply Pick.nd | apply Pick.mk | apply Cond.mk) <;> intro h <;> conv => whnf))
    exact End.mk rfl rfl
  | succ dp ih =>
    intro hd x hx
    have ih := ih (by omega)
    obtain ⟨k, o, n, s, v, sc, p, l⟩ := x
    have hlen : l.length ≤ maxLen := hx.one.len
    have hS : sizeN (dp + 1) (.mk k o n s v sc p l) = l.foldl (fun a y => IntKind.i64.wrap (a + sizeN dp y)) 1 := rfl
    have ew : IntKind.i64.wrap (((dp + 1 : Nat) : Int) - 1) = ((dp : Nat) : Int) := by rw [wi64_id (by omega) (by omega)]; omega
    rw [cE_mk, hS]
    refine ret_of_body atCalls tok mixed Try.func32 (by kernel_rfl) rfl (k := 25) (rs := [.tmp 4]) (by kernel_rfl) (by kernel_rfl) ?_
    (conv => whnf) <;> repeat' (first | ((first | refine wN ?_ | refine wNc ?_ | refine wA ?_ | refine wB ?_ | refine wC ?_ | refine wD ?_ | refine vA ?_ | refine vB ?_ | refine vC ?_ | refine vD ?_ | refine uA ?_ | refine uB ?_ | refine uC ?_ | refine uD ?_); conv => whnf) | ((first | apply Pick.dec | apply Pick.beq | apply Cond.dec | apply Cond.beq | apply Cond.nd | apply Pick.nd | apply Pick.mk | apply Cond.mk) <;> intro h <;> conv => whnf))
    intro I hw hs
    have turn : ∀ (d i : Nat), i + d = l.length → I [.und, .int .i64 ((dp + 1 : Nat) : Int), .und, .und, .und, .int .i64 ((l.take i).foldl (fun a y => IntKind.i64.wrap (a + sizeN dp y)) 1), .und, .und, .und, .und, .und, .ext 17 l.length (Xp.rows l), .int .i64 (l.length : Int), .int .i64 (i : Int), .und, .und, .und, .und, .und, .und, .und, .und, .und, .und, .und] [] := by
      intro d
      induction d with
      | zero =>
        intro i hi
        obtain rfl : i = l.length := by omega
        rw [List.take_length]
        apply hs
        conv => whnf
        refine Cond.ff (decF (by omega)) ?_
        (conv => whnf) <;> repeat' (first | ((first | refine wN ?_ | refine wNc ?_ | refine wA ?_ | refine wB ?_ | refine wC ?_ | refine wD ?_ | refine vA ?_ | refine vB ?_ | refine vC ?_ | refine vD ?_ | refine uA ?_ | refine uB ?_ | refine uC ?_ | refine uD ?_); conv => whnf) | ((first | apply Pick.dec | apply Pick.beq | apply Cond.dec | apply Cond.beq | apply Cond.nd | apply Pick.nd | apply Pick.mk | apply Cond.mk) <;> intro h <;> conv => whnf))
        exact End.mk rfl rfl
      | succ d im =>
        intro i hi
        have hil : i < l.length := by omega
        have gk : Xp.rows l (Int.toNat (i : Int)) = cE l[i] := by rw [Int.toNat_natCast]; exact (Xp.rows_ext l).2 i hil
        have e1 : IntKind.i64.wrap ((i : Int) + 1) = ((i + 1 : Nat) : Int) := by rw [wi64_id (by omega) (by omega)]; omega
        have im := im (i + 1) (by omega)
        rw [fold_take _ _ _ hil] at im
        have hC := ih l[i] (hx.arg (List.getElem_mem hil))
        generalize l[i] = y at *
        generalize sizeN dp y = q at *
        generalize (l.take i).foldl (fun a y => IntKind.i64.wrap (a + sizeN dp y)) 1 = acc at *
        apply hs
        conv => whnf
        refine Cond.tt (decT (by omega)) ?_
        (conv => whnf) <;> repeat' (first | ((conv => arg 1; whnf); rw [gk]; conv => whnf) | (rw [ew]; conv => whnf) | ((first | refine wN ?_ | refine wNc ?_ | refine wA ?_ | refine wB ?_ | refine wC ?_ | refine wD ?_ | refine Called.mk _ _ (hC) ?_ | refine vA ?_ | refine vB ?_ | refine vC ?_ | refine vD ?_ | refine uA ?_ | refine uB ?_ | refine uC ?_ | refine uD ?_); conv => whnf) | ((first | apply Pick.dec | apply Pick.beq | apply Cond.dec | apply Cond.beq | apply Cond.nd | apply Pick.nd | apply Pick.mk | apply Cond.mk) <;> intro h <;> conv => whnf))
        rw [e1]
        apply hw [] [false, true, false, false, false, true, false, false, false, false, false, true, true, true] _ _ rfl
        exact im
    apply hw [] [false, true, false, false, false, true, false, false, false, false, false, true, true, true] _ _ rfl
    exact turn l.length 0 (by omega)
theorem pick_min {n b : Nat} : pickM false ((n : Nat) : Int) ((b : Nat) : Int) = ((min n b : Nat) : Int) := by
  unfold pickM
  simp
  try omega
def itemsN (s : Se) (a : Int) : Int := (s.items.take (min s.items.length 400)).foldl (fun a x => IntKind.i64.wrap (a + sizeN 60 x.expr)) (IntKind.i64.wrap (a + ((s.items.length : Nat) : Int)))
def smallN (l : List Se) : Int := (l.take (min l.length 70)).foldl (fun a s => itemsN s a) 0
def smallB (l : List Se) : Bool := decide (l.length ≤ 64) && decide (smallN l ≤ 600)
theorem smallB_len {l : List Se} (h : smallB l = true) : l.length ≤ 64 := by
  unfold smallB at h
  rw [Bool.and_eq_true] at h
  exact of_decide_eq_true h.1
set_option maxHeartbeats 4000000 in
theorem small_ret (l : List Se) (hl : l.length ≤ maxLen) (hok : ∀ s ∈ l, s.Ok) : Ret Try.prog 9 [eL 5 cSe l] [] (.bool (smallB l)) [] := by
  have hm : maxLen ≤ 9223372036854775807 := by decide
  have hsz : ∀ x : Xp, x.Wf → Ret Try.prog 32 [eE x, .int .i64 60] [] (.int .i64 (sizeN 60 x)) [] := fun x hx => size_ret 60 (by omega) x hx
  have hmin : pickM false ((l.length : Nat) : Int) 70 = ((min l.length 70 : Nat) : Int) := pick_min (b := 70)
  have hres : smallB l = (decide (l.length ≤ 64) && decide ((l.take (min l.length 70)).foldl (fun a s => itemsN s a) 0 ≤ 600)) := rfl
  have hml : min l.length 70 ≤ l.length := Nat.min_le_left ..
  generalize min l.length 70 = m at *
  refine ret_of_body atCalls tok mixed Try.func9 (by kernel_rfl) rfl (k := 49) (rs := [.tmp 2]) (by kernel_rfl) (by kernel_rfl) ?_
  (conv => whnf) <;> repeat' (first | (rw [hmin]; conv => whnf) | ((first | refine wN ?_ | refine wNc ?_ | refine wA ?_ | refine wB ?_ | refine wC ?_ | refine wD ?_ | refine vA ?_ | refine vB ?_ | refine vC ?_ | refine vD ?_ | refine uA ?_ | refine uB ?_ | refine uC ?_ | refine uD ?_); conv => whnf) | ((first | apply Pick.dec | apply Pick.beq | apply Cond.dec | apply Cond.beq | apply Cond.nd | apply Pick.nd | apply Pick.mk | apply Cond.mk) <;> intro h <;> conv => whnf))
  intro I hw hs
  have turn : ∀ (d i : Nat), i + d = m → I [eL 5 cSe l, .und, .und, .int .i64 ((l.take i).foldl (fun a s => itemsN s a) 0), .und, .und, .und, .und, .und, .und, .und, .und, .ext 5 m (getL cSe l), .int .i64 ((m : Nat) : Int), .int .i64 (i : Int), .und, .und, .und, .und, .und, .und, .und, .und, .und, .und, .und, .und, .und, .und, .und, .und, .und, .und, .und, .und, .und, .und, .und, .und, .und, .und, .und, .und, .und, .und, .und, .und, .und, .und] [] := by
    intro d
    induction d with
    | zero =>
      intro i hi
      obtain rfl : i = m := by omega
      generalize (l.take i).foldl (fun a s => itemsN s a) 0 = acc at *
      apply hs
      conv => whnf
      refine Cond.ff (decF (by omega)) ?_
      (conv => whnf) <;> repeat' (first | ((first | refine wN ?_ | refine wNc ?_ | refine wA ?_ | refine wB ?_ | refine wC ?_ | refine wD ?_ | refine vA ?_ | refine vB ?_ | refine vC ?_ | refine vD ?_ | refine uA ?_ | refine uB ?_ | refine uC ?_ | refine uD ?_); conv => whnf) | ((first | apply Pick.dec | apply Pick.beq | apply Cond.dec | apply Cond.beq | apply Cond.nd | apply Pick.nd | apply Pick.mk | apply Cond.mk) <;> intro h <;> conv => whnf))
      all_goals
        refine End.mk (bool_eq ?_) rfl
        rw [hres, Bool.eq_iff_iff]
        simp
        try omega
    | succ d im =>
      intro i hi
      have hil : i < l.length := by omega
      have gk : getL cSe l (Int.toNat (i : Int)) = cSe l[i] := by rw [Int.toNat_natCast]; exact getL_at (List.getElem?_eq_getElem hil)
      have e1 : IntKind.i64.wrap ((i : Int) + 1) = ((i + 1 : Nat) : Int) := by rw [wi64_id (by omega) (by omega)]; omega
      have im := im (i + 1) (by omega)
      rw [fold_take _ _ _ hil] at im
      have hx := hok l[i] (List.getElem_mem hil)
      generalize l[i] = x at *
      generalize (l.take i).foldl (fun a s => itemsN s a) 0 = acc at *
      have him : pickM false ((x.items.length : Nat) : Int) 400 = ((min x.items.length 400 : Nat) : Int) := pick_min (b := 400)
      have hres2 : itemsN x acc = (x.items.take (min x.items.length 400)).foldl (fun a x => IntKind.i64.wrap (a + sizeN 60 x.expr)) (IntKind.i64.wrap (acc + ((x.items.length : Nat) : Int))) := rfl
      have hmi : min x.items.length 400 ≤ x.items.length := Nat.min_le_left ..
      have hxl := hx.1
      generalize min x.items.length 400 = q at *
      apply hs
      conv => whnf
      refine Cond.tt (decT (by omega)) ?_
      (conv => whnf) <;> repeat' (first | ((conv => arg 1; whnf); rw [gk]; conv => whnf) | (rw [him]; conv => whnf) | ((first | refine wN ?_ | refine wNc ?_ | refine wA ?_ | refine wB ?_ | refine wC ?_ | refine wD ?_ | refine vA ?_ | refine vB ?_ | refine vC ?_ | refine vD ?_ | refine uA ?_ | refine uB ?_ | refine uC ?_ | refine uD ?_); conv => whnf) | ((first | apply Pick.dec | apply Pick.beq | apply Cond.dec | apply Cond.beq | apply Cond.nd | apply Pick.nd | apply Pick.mk | apply Cond.mk) <;> intro h <;> conv => whnf))
      intro J jw js
      generalize IntKind.i64.wrap (acc + ((x.items.length : Nat) : Int)) = st at *
      have inner : ∀ (e j : Nat), j + e = q → J [eL 5 cSe l, .und, .und, .int .i64 ((x.items.take j).foldl (fun a x => IntKind.i64.wrap (a + sizeN 60 x.expr)) st), .und, .und, .und, .und, .und, .und, .und, .und, .ext 5 m (getL cSe l), .int .i64 ((m : Nat) : Int), .int .i64 (i : Int), .und, .und, .und, .und, .und, .und, .und, .und, .und, .und, .und, .und, .und, .und, .ext 23 q (getL cIt x.items), .int .i64 ((q : Nat) : Int), .int .i64 (j : Int), .und, .und, .und, .und, .und, .und, .und, .und, .und, .und, .und, .und, .und, .und, .und, .und, .und] [] := by
        intro e
        induction e with
        | zero =>
          intro j hj
          obtain rfl : j = q := by omega
          rw [hres2] at im
          apply js
          conv => whnf
          refine Cond.ff (decF (by omega)) ?_
          (conv => whnf) <;> repeat' (first | ((first | refine wN ?_ | refine wNc ?_ | refine wA ?_ | refine wB ?_ | refine wC ?_ | refine wD ?_ | refine vA ?_ | refine vB ?_ | refine vC ?_ | refine vD ?_ | refine uA ?_ | refine uB ?_ | refine uC ?_ | refine uD ?_); conv => whnf) | ((first | apply Pick.dec | apply Pick.beq | apply Cond.dec | apply Cond.beq | apply Cond.nd | apply Pick.nd | apply Pick.mk | apply Cond.mk) <;> intro h <;> conv => whnf))
          rw [e1]
          apply hw [] [true, false, false, true, false, false, false, false, false, false, false, false, true, true, true] _ _ rfl
          exact im
        | succ e ie =>
          intro j hj
          have hjl : j < x.items.length := by omega
          have gj : getL cIt x.items (Int.toNat (j : Int)) = cIt x.items[j] := by rw [Int.toNat_natCast]; exact getL_at (List.getElem?_eq_getElem hjl)
          have e2 : IntKind.i64.wrap ((j : Int) + 1) = ((j + 1 : Nat) : Int) := by rw [wi64_id (by omega) (by omega)]; omega
          have ie := ie (j + 1) (by omega)
          rw [fold_take _ _ _ hjl] at ie
          have hC := hsz _ (hx.2 _ (List.getElem_mem hjl)).wf
          generalize x.items[j] = y at *
          generalize (x.items.take j).foldl (fun a x => IntKind.i64.wrap (a + sizeN 60 x.expr)) st = ac2 at *
          generalize sizeN 60 y.expr = sy at *
          apply js
          conv => whnf
          refine Cond.tt (decT (by omega)) ?_
          (conv => whnf) <;> repeat' (first | ((conv => arg 1; whnf); rw [gj]; conv => whnf) | ((first | refine wN ?_ | refine wNc ?_ | refine wA ?_ | refine wB ?_ | refine wC ?_ | refine wD ?_ | refine Called.mk _ _ (hC) ?_ | refine vA ?_ | refine vB ?_ | refine vC ?_ | refine vD ?_ | refine uA ?_ | refine uB ?_ | refine uC ?_ | refine uD ?_); conv => whnf) | ((first | apply Pick.dec | apply Pick.beq | apply Cond.dec | apply Cond.beq | apply Cond.nd | apply Pick.nd | apply Pick.mk | apply Cond.mk) <;> intro h <;> conv => whnf))
          rw [e2]
          apply jw [] [true, false, false, true, false, false, false, false, false, false, false, false, true, true, true, false, false, false, false, false, false, false, false, false, false, false, false, false, false, true, true, true] _ _ rfl
          exact ie
      apply jw [] [true, false, false, true, false, false, false, false, false, false, false, false, true, true, true, false, false, false, false, false, false, false, false, false, false, false, false, false, false, true, true, true] _ _ rfl
      exact inner q 0 (by omega)
  apply hw [] [true, false, false, true, false, false, false, false, false, false, false, false, true, true, true] _ _ rfl
  exact turn m 0 (by omega)
end Go.Proofs.Ythjgnmpnagmeoaa

set_option linter.unusedVariables false
set_option linter.unusedSimpArgs false
set_option maxRecDepth 100000
namespace Go.Proofs.Ythjgnmpnagmeoaa
open Go.AM
theorem equalI_ret (l : List Int) (hl : l.length ≤ 1048576) : Ret Try.prog 17 [eL 1 cI l, eL 1 cI l] [] (.bool true) [] := by
  have f8 : ((l.length : Int) != (l.length : Int)) = false := by simp
  refine ret_of_body atNone tok mixed Try.func17 (by kernel_rfl) rfl (k := 26) (rs := [.tmp 4]) (by kernel_rfl) (by kernel_rfl) ?_
  (conv => whnf) <;> repeat' (first | ((first | refine wN ?_ | refine wNc ?_ | refine wA ?_ | refine wB ?_ | refine wC ?_ | refine wD ?_ | refine vA ?_ | refine vB ?_ | refine vC ?_ | refine vD ?_ | refine uA ?_ | refine uB ?_ | refine uC ?_ | refine uD ?_); conv => whnf) | ((first | apply Pick.dec | apply Pick.beq | apply Cond.dec | apply Cond.beq | apply Cond.nd | apply Pick.nd | apply Pick.mk | apply Cond.mk) <;> intro h <;> conv => whnf))
  intro J jw js
  have key : ∀ (d k : Nat), k + d = l.length → J [eL 1 cI l, eL 1 cI l, .und, .und, .bool false, .und, .und, .und, .und, .und, .und, .und, .int .i64 (l.length : Int), .int .i64 (k : Int), .und, .und, .und, .und, .und, .und, .und, .und, .und, .und, .und, .und] [] := by
    intro d
    induction d with
    | zero =>
      intro k hk
      apply js
      conv => whnf
      refine Cond.ff (decF (by omega)) ?_
      (conv => whnf) <;> repeat' (first | ((first | refine wN ?_ | refine wNc ?_ | refine wA ?_ | refine wB ?_ | refine wC ?_ | refine wD ?_ | refine vA ?_ | refine vB ?_ | refine vC ?_ | refine vD ?_ | refine uA ?_ | refine uB ?_ | refine uC ?_ | refine uD ?_); conv => whnf) | ((first | apply Pick.dec | apply Pick.beq | apply Cond.dec | apply Cond.beq | apply Cond.nd | apply Pick.nd | apply Pick.mk | apply Cond.mk) <;> intro h <;> conv => whnf))
      exact End.mk rfl rfl
    | succ d ih =>
      intro k hk
      have hkl : k < l.length := by omega
      have g1 : getL cI l (Int.toNat (k : Int)) = cI l[k] := by rw [Int.toNat_natCast]; exact getL_at (List.getElem?_eq_getElem hkl)
      have e2 : IntKind.i64.wrap ((k : Int) + 1) = ((k + 1 : Nat) : Int) := by rw [wi64_id (by omega) (by omega)]; omega
      generalize l[k] = w at *
      have f1 : (w != w) = false := by simp
      apply js
      conv => whnf
      refine Cond.tt (decT (by omega)) ?_
      (conv => whnf) <;> repeat' (first | ((conv => arg 1; whnf); rw [g1]; conv => whnf) | ((first | refine wN ?_ | refine wNc ?_ | refine wA ?_ | refine wB ?_ | refine wC ?_ | refine wD ?_ | refine vA ?_ | refine vB ?_ | refine vC ?_ | refine vD ?_ | refine uA ?_ | refine uB ?_ | refine uC ?_ | refine uD ?_); conv => whnf) | ((first | apply Pick.dec | apply Pick.beq | apply Cond.dec | apply Cond.beq | apply Cond.nd | apply Pick.nd | apply Pick.mk | apply Cond.mk) <;> intro h <;> conv => whnf))
      rw [e2]
      apply jw [] [true, true, false, false, true, false, false, false, false, false, false, false, true, true] _ _ (by decide)
      exact ih (k + 1) (by omega)
  apply jw [] [true, true, false, false, true, false, false, false, false, false, false, false, true, true] _ _ (by decide)
  exact key l.length 0 (by omega)
def rdC (n : ByteArray) : List Val := [Val.int IntKind.i64 2, Val.int IntKind.i64 0, Val.str n, Val.str ByteArray.empty, Val.int IntKind.i64 0,
        Val.bool false, Val.int IntKind.u64 0, Val.int IntKind.u64 0, Val.int IntKind.u64 0, Val.int IntKind.u64 0,
        Val.int IntKind.i64 0, Val.bool false, Val.str ByteArray.empty, Val.int IntKind.i64 0, Val.int IntKind.i64 0,
        Val.int IntKind.i64 0, Val.nils]
theorem rd_ret (n : ByteArray) : Ret Try.prog 33 [.str n] [] (.agg (rdC n)) [] := by
  unfold rdC
  refine ret_of_body atCalls tok mixed Try.func33 (by kernel_rfl) rfl (k := 5) (rs := [.cell 2 68]) (by kernel_rfl) (by kernel_rfl) ?_
  (conv => whnf) <;> repeat' (first | ((first | refine wN ?_ | refine wNc ?_ | refine wA ?_ | refine wB ?_ | refine wC ?_ | refine wD ?_ | refine vA ?_ | refine vB ?_ | refine vC ?_ | refine vD ?_ | refine uA ?_ | refine uB ?_ | refine uC ?_ | refine uD ?_); conv => whnf) | ((first | apply Pick.dec | apply Pick.beq | apply Cond.dec | apply Cond.beq | apply Cond.nd | apply Pick.nd | apply Pick.mk | apply Cond.mk) <;> intro h <;> conv => whnf))
  exact End.mk rfl rfl
def zxC : List Val := [Val.int IntKind.i64 0, Val.int IntKind.i64 0, Val.str ByteArray.empty, Val.str ByteArray.empty, Val.int IntKind.i64 0,
        Val.bool false, Val.int IntKind.u64 0, Val.int IntKind.u64 0, Val.int IntKind.u64 0, Val.int IntKind.u64 0,
        Val.int IntKind.i64 0, Val.bool false, Val.str ByteArray.empty, Val.int IntKind.i64 0, Val.int IntKind.i64 0,
        Val.int IntKind.i64 0, Val.nils]
def hdC (n : ByteArray) (k : Int) : List Val := [.str n, .int .i64 k, .int .i64 0, .int .i64 0, .bool false, .int .i64 0]
def itsC : List Val := hdC ⟨#[97]⟩ 1 ++ zxC ++ (hdC ⟨#[98]⟩ 2 ++ rdC ⟨#[99]⟩) ++ (hdC ⟨#[99]⟩ 2 ++ rdC ⟨#[97]⟩)
def liveV : Val := litE 5 1 [.int .i64 (-1), .int .i64 1, .str ByteArray.empty, .int .i64 0, litE 23 3 itsC]
theorem le_live : liveV.le (eL 5 cSe liveL) := by
  refine le_extC (g' := getL cSe liveL) (fun i hi => ?_) fun i j hi hj => ?_
  · obtain rfl : i = 0 := by omega
    rfl
  · obtain rfl : i = 0 := by omega
    match j, hj with
    | 0, _ => exact .refl _
    | 1, _ => exact .refl _
    | 2, _ => exact .refl _
    | 3, _ => exact .refl _
    | 4, _ =>
      refine leC_extC (g' := getL cIt [liA, liB, liC]) (fun i hi => ?_) fun i j hi hj => ?_
      · match i, hi with
        | 0, _ => rfl
        | 1, _ => rfl
        | 2, _ => rfl
      · match i, hi with
        | 0, _ => exact le_snocC (l := hdC ⟨#[97]⟩ 1 ++ zxC.take 16) (l' := (cIt liA).take 22) rfl (leC_nils (sz := 17) (g := Xp.rows [])) rfl j hj
        | 1, _ => exact le_snocC (l := hdC ⟨#[98]⟩ 2 ++ (rdC ⟨#[99]⟩).take 16) (l' := (cIt liB).take 22) rfl (leC_nils (sz := 17) (g := Xp.rows [])) rfl j hj
        | 2, _ => exact le_snocC (l := hdC ⟨#[99]⟩ 2 ++ (rdC ⟨#[97]⟩).take 16) (l' := (cIt liC).take 22) rfl (leC_nils (sz := 17) (g := Xp.rows [])) rfl j hj
theorem le_021 : (litE 1 3 [.int .i64 0, .int .i64 2, .int .i64 1]).le (eL 1 cI [0, 2, 1]) := by
  refine le_extC (g' := getL cI [0, 2, 1]) (fun i hi => ?_) fun i j hi hj => ?_
  · match i, hi with
    | 0, _ => rfl
    | 1, _ => rfl
    | 2, _ => rfl
  · obtain rfl : j = 0 := by omega
    match i, hi with
    | 0, _ => exact .refl _
    | 1, _ => exact .refl _
    | 2, _ => exact .refl _
theorem le_1 : (litE 1 1 [.int .i64 1]).le (eL 1 cI [1]) := by
  refine le_extC (g' := getL cI [1]) (fun i hi => ?_) fun i j hi hj => ?_
  · obtain rfl : i = 0 := by omega
    rfl
  · obtain rfl : i = 0 := by omega
    obtain rfl : j = 0 := by omega
    exact .refl _
theorem live_ret : Ret Try.prog 10 [] [] (.bool true) [] := by
  have hA := rd_ret ⟨#[97]⟩
  have hC := rd_ret ⟨#[99]⟩
  have hR := ranks_ret liveL liveL_ok
  have hO := order_ret liveL liveL_ok
  have hU := users_ret liveL liveL_ok 2
  rw [live_ranks] at hR
  rw [live_order] at hO
  rw [live_users] at hU
  have hR := Ret.le (.cons le_live .nil) hR
  have hO := Ret.le (.cons le_live .nil) hO
  have hU := Ret.le (.cons le_live (.cons (.refl _) .nil)) hU
  have h1 := Ret.le (.cons (.refl _) (.cons le_021 .nil)) (equalI_ret [0, 2, 1] (by decide))
  have h2 := Ret.le (.cons (.refl _) (.cons le_1 .nil)) (equalI_ret [1] (by decide))
  refine ret_of_body atCalls tok mixed Try.func10 (by kernel_rfl) rfl (k := 49) (rs := [.tmp 0]) (by kernel_rfl) (by kernel_rfl) ?_
  (conv => whnf) <;> repeat' (first | ((first | refine wN ?_ | refine wNc ?_ | refine wA ?_ | refine wB ?_ | refine wC ?_ | refine wD ?_ | refine Called.mk _ _ (hA) ?_ | refine Called.mk _ _ (hC) ?_ | refine Called.mk _ _ (hR) ?_ | refine Called.mk _ _ (hO) ?_ | refine Called.mk _ _ (hU) ?_ | refine Called.mk _ _ (h1) ?_ | refine Called.mk _ _ (h2) ?_ | refine vA ?_ | refine vB ?_ | refine vC ?_ | refine vD ?_ | refine uA ?_ | refine uB ?_ | refine uC ?_ | refine uD ?_); conv => whnf) | ((first | apply Pick.dec | apply Pick.beq | apply Cond.dec | apply Cond.beq | apply Cond.nd | apply Pick.nd | apply Pick.mk | apply Cond.mk) <;> intro h <;> conv => whnf))
  exact End.mk rfl rfl
end Go.Proofs.Ythjgnmpnagmeoaa

set_option linter.unusedVariables false
set_option linter.unusedSimpArgs false
set_option maxRecDepth 100000
namespace Go.Proofs.Ythjgnmpnagmeoaa
open Go.AM
end Go.Proofs.Ythjgnmpnagmeoaa

