/- limb and exciseref01: Parse. -/
import Derived.Test.YtenlkhlkohnmkaaAmGC
import Derived.Test.YtenlkhlkohnmkaaAmGL
set_option linter.unusedVariables false
set_option linter.unusedSimpArgs false
set_option maxRecDepth 100000
namespace Go.Proofs.Ytenlkhlkohnmkaa
open Go.AM
/-- One digit more: what the two products and sums are. -/
theorem digit_step (v : Nat) (c : Int) (hc : isDig c) (hv : (v : Int) < B4) : (mkN ((mkN (v : Int)).v * (mkN 10).v / B4) = N0 ∧ ¬ B4 ≤ (mkN ((mkN (v : Int)).v * (mkN 10).v)).v + (mkN (c - 48)).v ↔ ((v * 10 + (c - 48).toNat : Nat) : Int) < B4) ∧
    (((v * 10 + (c - 48).toNat : Nat) : Int) < B4 → mkN ((mkN ((mkN (v : Int)).v * (mkN 10).v)).v + (mkN (c - 48)).v) = mkN ((v * 10 + (c - 48).toNat : Nat) : Int)) := by
  have e1 : (mkN (v : Int)).v = v := mkN_v ⟨by omega, hv⟩
  have e2 : (mkN 10).v = 10 := by decide
  unfold isDig at hc
  have e3 : (mkN (c - 48)).v = c - 48 := mkN_v ⟨by omega, by unfold B4; omega⟩
  rw [e1, e2, e3]
  have e4 : (mkN ((v : Int) * 10)).v = (v : Int) * 10 % B4 := rfl
  rw [e4]
  have hw : W ((v : Int) * 10 / B4) := by unfold W B4 at *; omega
  have e5 : mkN ((v : Int) * 10 / B4) = N0 ↔ (v : Int) * 10 / B4 = 0 := by
    constructor
    · intro h; have := congrArg N.v h; rwa [mkN_v hw] at this
    · intro h; rw [h]; exact mkN_0
  rw [e5]
  refine ⟨by unfold B4 at *; omega, fun h => ?_⟩
  apply N.eq
  simp only [mkN]
  unfold B4 at *; omega

theorem conv8 {c : Int} (h : isDig c) : IntKind.u64.wrap (IntKind.u8.wrap (c - 48)) = c - 48 := by
  unfold isDig at h
  rw [wrap8_id (by omega) (by omega), w64_id (by omega) (by omega)]
theorem U_dig {c : Int} (h : isDig c) : U (c - 48) := by unfold isDig at h; unfold U; omega
set_option maxHeartbeats 4000000 in
theorem rParse_ret (s : ByteArray) (hs63 : s.size ≤ 9223372036854775807) : Ret Try.prog 29 [.str s] [] (.tup [eN (parse s).1, .int .i64 (parse s).2]) [] := by
  refine ret_of_body atNone tok mixed Try.func29 (by kernel_rfl) rfl (k := 77) (rs := [.cell 2 24, .tmp 3]) (by kernel_rfl) (by kernel_rfl) ?_
  (conv => whnf) <;> repeat' (first | (rw [empty_iff]; conv => whnf) | (refine Need.mk (by first | decide | omega | (simp; done) | (simp; omega)) ?_; conv => whnf) | (refine Cond.tt rfl ?_; conv => whnf) | (refine Cond.ff rfl ?_; conv => whnf) | (refine Pick.tt rfl ?_; conv => whnf) | (refine Pick.ff rfl ?_; conv => whnf) | (refine Pick.dec (fun h => ?_) (fun h => ?_) <;> conv => whnf) | (refine Pick.beq (fun h => ?_) (fun h => ?_) <;> conv => whnf) | (refine Cond.dec (fun h => ?_) (fun h => ?_) <;> conv => whnf) | (refine Cond.beq (fun h => ?_) (fun h => ?_) <;> conv => whnf) | (refine Cond.nd (fun h => ?_) (fun h => ?_) <;> conv => whnf) | (refine Pick.nd (fun h => ?_) (fun h => ?_) <;> conv => whnf) | (refine Pick.mk (fun h => ?_) (fun h => ?_) <;> conv => whnf) | (refine Cond.mk (fun h => ?_) (fun h => ?_) <;> conv => whnf))
  · rw [parse_short (.inl h)]; exact End.mk rfl rfl
  · rw [parse_short (.inr ⟨by assumption, by omega⟩)]; exact End.mk rfl rfl
  all_goals
    have hc : ¬ (s.size = 0 ∨ (bt s 0 = 48 ∧ 1 < s.size)) := by omega
    intro I hw hs
    have key1 : ∀ (k i : Nat), i + k = s.size → (∀ j, j < i → isDig (bt s (j : Nat))) → I [.str s, .und, .ptr 0 0, .int .i64 0, .int .i64 (i : Nat), .und, .und, .und, .und, .und, .und, .und, .und, .und, .und, .und, .und, .und, .und, .und, .und, .und, .und, .und, .und, .und, .und, .und, .und, .und, .und, .und, .und, .und, .und, .und, .und, .und, .und, .und, .und, .und, .und, .und, .und, .und, .und, .und, .und, .und, .und, .und, .und, .und, .und, .und, .und, .und, .und, .und, .und, .und, .und, .und, .und, .und, .und, .und, .und, .und, .und, .und, .und, .und, .und, .und, .und] [.cells (cN N0)] := by
      intro k
      induction k with
      | zero =>
        intro i hik hd
        obtain rfl : i = s.size := by omega
        apply hs
        conv => whnf
        refine Cond.ff (decF (by omega)) ?_
        (conv => whnf) <;> repeat' (first | (refine Need.mk (by first | decide | omega | (simp; done) | (simp; omega)) ?_; conv => whnf) | (refine Cond.tt rfl ?_; conv => whnf) | (refine Cond.ff rfl ?_; conv => whnf) | (refine Pick.tt rfl ?_; conv => whnf) | (refine Pick.ff rfl ?_; conv => whnf) | (refine Pick.dec (fun h => ?_) (fun h => ?_) <;> conv => whnf) | (refine Pick.beq (fun h => ?_) (fun h => ?_) <;> conv => whnf) | (refine Cond.dec (fun h => ?_) (fun h => ?_) <;> conv => whnf) | (refine Cond.beq (fun h => ?_) (fun h => ?_) <;> conv => whnf) | (refine Cond.nd (fun h => ?_) (fun h => ?_) <;> conv => whnf) | (refine Pick.nd (fun h => ?_) (fun h => ?_) <;> conv => whnf) | (refine Pick.mk (fun h => ?_) (fun h => ?_) <;> conv => whnf) | (refine Cond.mk (fun h => ?_) (fun h => ?_) <;> conv => whnf))
        · rw [parse_over hc hd (pval_long hc hd (by omega))]; exact End.mk rfl rfl
        intro J jw js
        have key2 : ∀ (k i : Nat), i + k = s.size → (pval (fun i => bt s i) i : Int) < B4 → J [.str s, .und, .ptr 0 0, .int .i64 0, .und, .ptr 1 0, .int .i64 (i : Nat), .und, .und, .und, .und, .und, .und, .und, .und, .und, .und, .und, .und, .und, .und, .und, .und, .und, .und, .und, .und, .und, .und, .und, .und, .und, .und, .und, .und, .und, .und, .und, .und, .und, .und, .und, .und, .und, .und, .und, .und, .und, .und, .und, .und, .und, .und, .und, .und, .und, .und, .und, .und, .und, .und, .und, .und, .und, .und, .und, .und, .und, .und, .und, .und, .und, .und, .und, .und, .und, .und] [.cells (cN N0), .cells (cN (mkN (pval (fun i => bt s i) i)))] := by
          intro k
          induction k with
          | zero =>
            intro i hik hv
            obtain rfl : i = s.size := by omega
            apply js
            conv => whnf
            refine Cond.ff (decF (by omega)) ?_
            (conv => whnf) <;> repeat' (first | (refine Need.mk (by first | decide | omega | (simp; done) | (simp; omega)) ?_; conv => whnf) | (refine Cond.tt rfl ?_; conv => whnf) | (refine Cond.ff rfl ?_; conv => whnf) | (refine Pick.tt rfl ?_; conv => whnf) | (refine Pick.ff rfl ?_; conv => whnf) | (refine Pick.dec (fun h => ?_) (fun h => ?_) <;> conv => whnf) | (refine Pick.beq (fun h => ?_) (fun h => ?_) <;> conv => whnf) | (refine Cond.dec (fun h => ?_) (fun h => ?_) <;> conv => whnf) | (refine Cond.beq (fun h => ?_) (fun h => ?_) <;> conv => whnf) | (refine Cond.nd (fun h => ?_) (fun h => ?_) <;> conv => whnf) | (refine Pick.nd (fun h => ?_) (fun h => ?_) <;> conv => whnf) | (refine Pick.mk (fun h => ?_) (fun h => ?_) <;> conv => whnf) | (refine Cond.mk (fun h => ?_) (fun h => ?_) <;> conv => whnf))
            rw [parse_ok hc hd hv]; exact End.mk rfl rfl
          | succ k ih =>
            intro i hik hv
            have hi := hd i (by omega)
            obtain ⟨st1, st2⟩ := digit_step (pval (fun i => bt s i) i) (bt s (i : Nat)) hi hv
            have hp : pval (fun i => bt s i) (i + 1) = pval (fun i => bt s i) i * 10 + (bt s (i : Nat) - 48).toNat := rfl
            rw [← hp] at st1 st2
            have hover : ¬ (pval (fun i => bt s i) (i + 1) : Int) < B4 → parse s = (N0, 7) := fun h => parse_over hc hd (by have := pval_mono (fun i => bt s i) (i := i + 1) (j := s.size) (by omega); omega)
            apply js
            conv => whnf
            refine Cond.tt (decT (by omega)) ?_
            (conv => whnf) <;> repeat' (first | (rw [conv8 hi]; conv => whnf) | (rw [eqN_zero]; conv => whnf) | (refine Need.mk (by first | decide | omega | (simp; done) | (simp; omega)) ?_; conv => whnf) | (refine Cond.tt rfl ?_; conv => whnf) | (refine Cond.ff rfl ?_; conv => whnf) | (refine Pick.tt rfl ?_; conv => whnf) | (refine Pick.ff rfl ?_; conv => whnf) | (refine Called.mk _ _ (rFrom_ret 10 (by decide)) ?_; conv => whnf) | (refine Called.mk _ _ (rMulN (mkN (pval (fun i => bt s i) i)) (mkN 10)) ?_; conv => whnf) | (refine Called.mk _ _ (rFrom_ret (bt s (i : Nat) - 48) (U_dig hi)) ?_; conv => whnf) | (refine Called.mk _ _ (rAdd_ret (mkN ((mkN (pval (fun i => bt s i) i)).v * (mkN 10).v)) (mkN (bt s (i : Nat) - 48))) ?_; conv => whnf) | (refine Pick.dec (fun h => ?_) (fun h => ?_) <;> conv => whnf) | (refine Pick.beq (fun h => ?_) (fun h => ?_) <;> conv => whnf) | (refine Cond.dec (fun h => ?_) (fun h => ?_) <;> conv => whnf) | (refine Cond.beq (fun h => ?_) (fun h => ?_) <;> conv => whnf) | (refine Cond.nd (fun h => ?_) (fun h => ?_) <;> conv => whnf) | (refine Pick.nd (fun h => ?_) (fun h => ?_) <;> conv => whnf) | (refine Pick.mk (fun h => ?_) (fun h => ?_) <;> conv => whnf) | (refine Cond.mk (fun h => ?_) (fun h => ?_) <;> conv => whnf))
            · rw [hover (fun hlt => h (st1.2 hlt).1)]; exact End.mk rfl rfl
            · rw [hover (fun hlt => (st1.2 hlt).2 h)]; exact End.mk rfl rfl
            · have hlt := st1.1 ⟨by assumption, h⟩
              rw [st2 hlt, show IntKind.i64.wrap ((i : Int) + 1) = ((i + 1 : Nat) : Int) by rw [wi64_id (by omega) (by omega)]; omega]
              apply jw [0, 1] [true, false, true, true, false, true, true] _ _ (by decide)
              exact ih (i + 1) (by omega) hlt
        apply jw [0, 1] [true, false, true, true, false, true, true] _ _ (by decide)
        have st := key2 s.size 0 (by omega) (show ((0 : Nat) : Int) < B4 by decide)
        rw [show mkN ((pval (fun i => bt s i) 0 : Nat) : Int) = N0 from mkN_0] at st
        exact st
      | succ k ih =>
        intro i hik hd
        apply hs
        conv => whnf
        refine Cond.tt (decT (by omega)) ?_
        (conv => whnf) <;> repeat' (first | (refine Need.mk (by first | decide | omega | (simp; done) | (simp; omega)) ?_; conv => whnf) | (refine Cond.tt rfl ?_; conv => whnf) | (refine Cond.ff rfl ?_; conv => whnf) | (refine Pick.tt rfl ?_; conv => whnf) | (refine Pick.ff rfl ?_; conv => whnf) | (refine Pick.dec (fun h => ?_) (fun h => ?_) <;> conv => whnf) | (refine Pick.beq (fun h => ?_) (fun h => ?_) <;> conv => whnf) | (refine Cond.dec (fun h => ?_) (fun h => ?_) <;> conv => whnf) | (refine Cond.beq (fun h => ?_) (fun h => ?_) <;> conv => whnf) | (refine Cond.nd (fun h => ?_) (fun h => ?_) <;> conv => whnf) | (refine Pick.nd (fun h => ?_) (fun h => ?_) <;> conv => whnf) | (refine Pick.mk (fun h => ?_) (fun h => ?_) <;> conv => whnf) | (refine Cond.mk (fun h => ?_) (fun h => ?_) <;> conv => whnf))
        · rw [parse_bad hc (i := i) (by omega) (by unfold isDig; omega)]; exact End.mk rfl rfl
        · rw [parse_bad hc (i := i) (by omega) (by unfold isDig; omega)]; exact End.mk rfl rfl
        · rw [show IntKind.i64.wrap ((i : Int) + 1) = ((i + 1 : Nat) : Int) by rw [wi64_id (by omega) (by omega)]; omega]
          apply hw [0] [true, false, true, true, true] _ _ (by decide)
          refine ih (i + 1) (by omega) fun j hj => ?_
          rcases (by omega : j < i ∨ j = i) with h1 | h1
          · exact hd j h1
          · subst h1; unfold isDig; omega
    apply hw [0] [true, false, true, true, true] _ _ (by decide)
    exact key1 s.size 0 (by omega) (fun j hj => by omega)
set_option maxHeartbeats 4000000 in
theorem Parse_ret (s : ByteArray) (hs63 : s.size ≤ 9223372036854775807) : Ret Try.prog 28 [.str s] [] (.tup [eN (parse s).1, .int .i64 (parse s).2]) [] := by
  refine ret_of_body atNone tok mixed Try.func28 (by kernel_rfl) rfl (k := 73) (rs := [.cell 2 24, .tmp 3]) (by kernel_rfl) (by kernel_rfl) ?_
  (conv => whnf) <;> repeat' (first | (rw [empty_iff]; conv => whnf) | (refine Need.mk (by first | decide | omega | (simp; done) | (simp; omega)) ?_; conv => whnf) | (refine Cond.tt rfl ?_; conv => whnf) | (refine Cond.ff rfl ?_; conv => whnf) | (refine Pick.tt rfl ?_; conv => whnf) | (refine Pick.ff rfl ?_; conv => whnf) | (refine Pick.dec (fun h => ?_) (fun h => ?_) <;> conv => whnf) | (refine Pick.beq (fun h => ?_) (fun h => ?_) <;> conv => whnf) | (refine Cond.dec (fun h => ?_) (fun h => ?_) <;> conv => whnf) | (refine Cond.beq (fun h => ?_) (fun h => ?_) <;> conv => whnf) | (refine Cond.nd (fun h => ?_) (fun h => ?_) <;> conv => whnf) | (refine Pick.nd (fun h => ?_) (fun h => ?_) <;> conv => whnf) | (refine Pick.mk (fun h => ?_) (fun h => ?_) <;> conv => whnf) | (refine Cond.mk (fun h => ?_) (fun h => ?_) <;> conv => whnf))
  · rw [parse_short (.inl h)]; exact End.mk rfl rfl
  · rw [parse_short (.inr ⟨by assumption, by omega⟩)]; exact End.mk rfl rfl
  all_goals
    have hc : ¬ (s.size = 0 ∨ (bt s 0 = 48 ∧ 1 < s.size)) := by omega
    intro I hw hs
    have key1 : ∀ (k i : Nat), i + k = s.size → (∀ j, j < i → isDig (bt s (j : Nat))) → I [.str s, .und, .ptr 0 0, .int .i64 0, .und, .und, .und, .und, .und, .und, .und, .und, .und, .und, .und, .und, .und, .und, .und, .und, .und, .und, .und, .und, .und, .und, .und, .ext 1 s.size (fun i => [.int .u8 (bt s i)]), .int .i64 s.size, .int .i64 (i : Nat), .und, .und, .und, .und, .und, .und, .und, .und, .und, .und, .und, .und, .und, .und, .und, .und, .und, .und, .und, .und, .und, .und, .und, .und, .und, .und, .und, .und, .und, .und, .und, .und, .und, .und, .und, .und, .und, .und, .und, .und, .und, .und, .und] [.cells (cN N0)] := by
      intro k
      induction k with
      | zero =>
        intro i hik hd
        obtain rfl : i = s.size := by omega
        apply hs
        conv => whnf
        refine Cond.ff (decF (by omega)) ?_
        (conv => whnf) <;> repeat' (first | (refine Need.mk (by first | decide | omega | (simp; done) | (simp; omega)) ?_; conv => whnf) | (refine Cond.tt rfl ?_; conv => whnf) | (refine Cond.ff rfl ?_; conv => whnf) | (refine Pick.tt rfl ?_; conv => whnf) | (refine Pick.ff rfl ?_; conv => whnf) | (refine Pick.dec (fun h => ?_) (fun h => ?_) <;> conv => whnf) | (refine Pick.beq (fun h => ?_) (fun h => ?_) <;> conv => whnf) | (refine Cond.dec (fun h => ?_) (fun h => ?_) <;> conv => whnf) | (refine Cond.beq (fun h => ?_) (fun h => ?_) <;> conv => whnf) | (refine Cond.nd (fun h => ?_) (fun h => ?_) <;> conv => whnf) | (refine Pick.nd (fun h => ?_) (fun h => ?_) <;> conv => whnf) | (refine Pick.mk (fun h => ?_) (fun h => ?_) <;> conv => whnf) | (refine Cond.mk (fun h => ?_) (fun h => ?_) <;> conv => whnf))
        intro J jw js
        have key2 : ∀ (k i : Nat), i + k = s.size → (pval (fun i => bt s i) i : Int) < B4 → J [.und, .und, .ptr 0 0, .int .i64 0, .und, .und, .ptr 1 0, .und, .und, .und, .und, .und, .und, .und, .und, .und, .und, .und, .und, .und, .und, .und, .und, .und, .und, .und, .und, .und, .und, .und, .und, .und, .und, .und, .und, .und, .und, .und, .und, .und, .und, .und, .ext 1 s.size (fun i => [.int .u8 (bt s i)]), .int .i64 s.size, .int .i64 (i : Nat), .und, .und, .und, .und, .und, .und, .und, .und, .und, .und, .und, .und, .und, .und, .und, .und, .und, .und, .und, .und, .und, .und, .und, .und, .und, .und, .und, .und] [.cells (cN N0), .cells (cN (mkN (pval (fun i => bt s i) i)))] := by
          intro k
          induction k with
          | zero =>
            intro i hik hv
            obtain rfl : i = s.size := by omega
            apply js
            conv => whnf
            refine Cond.ff (decF (by omega)) ?_
            (conv => whnf) <;> repeat' (first | (refine Need.mk (by first | decide | omega | (simp; done) | (simp; omega)) ?_; conv => whnf) | (refine Cond.tt rfl ?_; conv => whnf) | (refine Cond.ff rfl ?_; conv => whnf) | (refine Pick.tt rfl ?_; conv => whnf) | (refine Pick.ff rfl ?_; conv => whnf) | (refine Pick.dec (fun h => ?_) (fun h => ?_) <;> conv => whnf) | (refine Pick.beq (fun h => ?_) (fun h => ?_) <;> conv => whnf) | (refine Cond.dec (fun h => ?_) (fun h => ?_) <;> conv => whnf) | (refine Cond.beq (fun h => ?_) (fun h => ?_) <;> conv => whnf) | (refine Cond.nd (fun h => ?_) (fun h => ?_) <;> conv => whnf) | (refine Pick.nd (fun h => ?_) (fun h => ?_) <;> conv => whnf) | (refine Pick.mk (fun h => ?_) (fun h => ?_) <;> conv => whnf) | (refine Cond.mk (fun h => ?_) (fun h => ?_) <;> conv => whnf))
            rw [parse_ok hc hd hv]; exact End.mk rfl rfl
          | succ k ih =>
            intro i hik hv
            have hi := hd i (by omega)
            obtain ⟨st1, st2⟩ := digit_step (pval (fun i => bt s i) i) (bt s (i : Nat)) hi hv
            have hp : pval (fun i => bt s i) (i + 1) = pval (fun i => bt s i) i * 10 + (bt s (i : Nat) - 48).toNat := rfl
            rw [← hp] at st1 st2
            have hover : ¬ (pval (fun i => bt s i) (i + 1) : Int) < B4 → parse s = (N0, 7) := fun h => parse_over hc hd (by have := pval_mono (fun i => bt s i) (i := i + 1) (j := s.size) (by omega); omega)
            apply js
            conv => whnf
            refine Cond.tt (decT (by omega)) ?_
            (conv => whnf) <;> repeat' (first | (rw [Int.toNat_natCast]; conv => whnf) | (rw [conv8 hi]; conv => whnf) | (rw [eqN_zero]; conv => whnf) | (refine Need.mk (by first | decide | omega | (simp; done) | (simp; omega)) ?_; conv => whnf) | (refine Cond.tt rfl ?_; conv => whnf) | (refine Cond.ff rfl ?_; conv => whnf) | (refine Pick.tt rfl ?_; conv => whnf) | (refine Pick.ff rfl ?_; conv => whnf) | (refine Called.mk _ _ (From_ret 10 (by decide)) ?_; conv => whnf) | (refine Called.mk _ _ (MulN (mkN (pval (fun i => bt s i) i)) (mkN 10)) ?_; conv => whnf) | (refine Called.mk _ _ (From_ret (bt s (i : Nat) - 48) (U_dig hi)) ?_; conv => whnf) | (refine Called.mk _ _ (Add_ret (mkN ((mkN (pval (fun i => bt s i) i)).v * (mkN 10).v)) (mkN (bt s (i : Nat) - 48))) ?_; conv => whnf) | (refine Pick.dec (fun h => ?_) (fun h => ?_) <;> conv => whnf) | (refine Pick.beq (fun h => ?_) (fun h => ?_) <;> conv => whnf) | (refine Cond.dec (fun h => ?_) (fun h => ?_) <;> conv => whnf) | (refine Cond.beq (fun h => ?_) (fun h => ?_) <;> conv => whnf) | (refine Cond.nd (fun h => ?_) (fun h => ?_) <;> conv => whnf) | (refine Pick.nd (fun h => ?_) (fun h => ?_) <;> conv => whnf) | (refine Pick.mk (fun h => ?_) (fun h => ?_) <;> conv => whnf) | (refine Cond.mk (fun h => ?_) (fun h => ?_) <;> conv => whnf))
            · rw [hover (fun hlt => (st1.2 hlt).2 h)]; exact End.mk rfl rfl
            · rw [hover (fun hlt => h (st1.2 hlt).1)]; exact End.mk rfl rfl
            · have hlt := st1.1 ⟨h, by assumption⟩
              rw [st2 hlt, show IntKind.i64.wrap ((i : Int) + 1) = ((i + 1 : Nat) : Int) by rw [wi64_id (by omega) (by omega)]; omega]
              apply jw [0, 1] [false, false, true, true, false, false, true, false, false, false, false, false, false, false, false, false, false, false, false, false, false, false, false, false, false, false, false, false, false, false, false, false, false, false, false, false, false, false, false, false, false, false, true, true, true] _ _ (by decide)
              exact ih (i + 1) (by omega) hlt
        apply jw [0, 1] [false, false, true, true, false, false, true, false, false, false, false, false, false, false, false, false, false, false, false, false, false, false, false, false, false, false, false, false, false, false, false, false, false, false, false, false, false, false, false, false, false, false, true, true, true] _ _ (by decide)
        have st := key2 s.size 0 (by omega) (show ((0 : Nat) : Int) < B4 by decide)
        rw [show mkN ((pval (fun i => bt s i) 0 : Nat) : Int) = N0 from mkN_0] at st
        exact st
      | succ k ih =>
        intro i hik hd
        apply hs
        conv => whnf
        refine Cond.tt (decT (by omega)) ?_
        (conv => whnf) <;> repeat' (first | (rw [Int.toNat_natCast]; conv => whnf) | (refine Need.mk (by first | decide | omega | (simp; done) | (simp; omega)) ?_; conv => whnf) | (refine Cond.tt rfl ?_; conv => whnf) | (refine Cond.ff rfl ?_; conv => whnf) | (refine Pick.tt rfl ?_; conv => whnf) | (refine Pick.ff rfl ?_; conv => whnf) | (refine Pick.dec (fun h => ?_) (fun h => ?_) <;> conv => whnf) | (refine Pick.beq (fun h => ?_) (fun h => ?_) <;> conv => whnf) | (refine Cond.dec (fun h => ?_) (fun h => ?_) <;> conv => whnf) | (refine Cond.beq (fun h => ?_) (fun h => ?_) <;> conv => whnf) | (refine Cond.nd (fun h => ?_) (fun h => ?_) <;> conv => whnf) | (refine Pick.nd (fun h => ?_) (fun h => ?_) <;> conv => whnf) | (refine Pick.mk (fun h => ?_) (fun h => ?_) <;> conv => whnf) | (refine Cond.mk (fun h => ?_) (fun h => ?_) <;> conv => whnf))
        · rw [parse_bad hc (i := i) (by omega) (by unfold isDig; omega)]; exact End.mk rfl rfl
        · rw [parse_bad hc (i := i) (by omega) (by unfold isDig; omega)]; exact End.mk rfl rfl
        · rw [show IntKind.i64.wrap ((i : Int) + 1) = ((i + 1 : Nat) : Int) by rw [wi64_id (by omega) (by omega)]; omega]
          apply hw [0] [true, false, true, true, false, false, false, false, false, false, false, false, false, false, false, false, false, false, false, false, false, false, false, false, false, false, false, true, true, true] _ _ (by decide)
          refine ih (i + 1) (by omega) fun j hj => ?_
          rcases (by omega : j < i ∨ j = i) with h1 | h1
          · exact hd j h1
          · subst h1; unfold isDig; omega
    apply hw [0] [true, false, true, true, false, false, false, false, false, false, false, false, false, false, false, false, false, false, false, false, false, false, false, false, false, false, false, true, true, true] _ _ (by decide)
    exact key1 s.size 0 (by omega) (fun j hj => by omega)
end Go.Proofs.Ytenlkhlkohnmkaa
set_option linter.unusedVariables false
set_option linter.unusedSimpArgs false
set_option maxRecDepth 100000
namespace Go.Proofs.Ytenlkhlkohnmkaa
open Go.AM
theorem byte48 (b : N) : IntKind.u8.wrap (IntKind.u64.wrap (48 + b.v % 10)) = 48 + ((b.v.toNat % 10 : Nat) : Int) := by
  have := b.h.1
  rw [w64_id (by omega) (by omega), wrap8_id (by omega) (by omega)]; omega
theorem mk_tenth (b : N) : (mkN (b.v / 10)).v = b.v / 10 := by
  have := b.h
  exact mkN_v (by unfold W at *; omega)
set_option maxHeartbeats 2000000 in
theorem Text_ret (a : N) : Ret Try.prog 32 [eN a] [] (.str (text a.v.toNat)) [] := by
  refine ret_of_body atNone tok mixed Try.func32 (by kernel_rfl) rfl (k := 26) (rs := [.tmp 2]) (by kernel_rfl) (by kernel_rfl) ?_
  conv => whnf
  intro J jw js
  have key : ∀ (k L : Nat) (b : N) (acc : List Int) (cs : List Val), L + k ≤ 78 → b.v ≠ 0 → b.v < 10 ^ k → acc.length = L → Still cs → cs.length = 80 → cs.drop (80 - L) = acc.map (.int .u8) →
      text a.v.toNat = byteList (((lo k b.v.toNat).map fun (d : Nat) => (48 + d : Int)) ++ acc) → J 0 [.und, .ptr 0 0, .str ⟨#[]⟩, .ptr 1 0, .int .i64 (80 - L : Nat), .und, .und, .und, .und, .und, .und, .und, .und, .und, .und, .und, .und, .und, .und, .und, .und, .und, .und, .und, .und, .und] [.cells (cN b), .cells cs] := by
    intro k
    induction k with
    | zero =>
      intro L b acc cs _ h0 h1
      exfalso
      have := b.h.1
      have e : (10 : Int) ^ 0 = 1 := rfl
      rw [e] at h1; omega
    | succ k ih =>
      intro L b acc cs hL hb0 hb hacc hst hcs hdrop htext
      have hbp := b.h.1
      have hA : IntKind.i64.wrap (((80 - L : Nat) : Int) - 1) = ((79 - L : Nat) : Int) := by rw [wi64_id (by omega) (by omega)]; omega
      have hd : ∀ v : Val, decide (0 + (79 - L) * (TD.int IntKind.u8).size + [v].length ≤ cs.length) = true := fun v => decT (by rw [hcs]; simp only [TD.size, List.length_cons, List.length_nil]; omega)
      have hn : ∀ v : Val, List.take (0 + (79 - L) * (TD.int IntKind.u8).size) cs ++ v :: List.drop (0 + (79 - L) * (TD.int IntKind.u8).size + [v].length) cs = upd cs (79 - L) v := fun v => by
        unfold upd; simp only [TD.size, List.length_cons, List.length_nil, Nat.zero_add, Nat.mul_one]
      have hlen : ∀ v : Val, (upd cs (79 - L) v).length = 80 := fun v => by rw [upd_len v (by omega), hcs]
      have hdr : (upd cs (79 - L) (.int .u8 (48 + ((b.v.toNat % 10 : Nat) : Int)))).drop (79 - L) = ((48 + ((b.v.toNat % 10 : Nat) : Int)) :: acc).map (.int .u8) := by
        rw [upd_drop _ (by omega), show 79 - L + 1 = 80 - L by omega, hdrop]; rfl
      have htk : List.take (80 - (79 - L)) (List.drop (0 + (79 - L)) (upd cs (79 - L) (.int .u8 (48 + ((b.v.toNat % 10 : Nat) : Int))))) = ((48 + ((b.v.toNat % 10 : Nat) : Int)) :: acc).map (.int .u8) := by
        rw [Nat.zero_add, hdr, List.take_of_length_le (by simp; omega)]
      have hll : ((((48 + ((b.v.toNat % 10 : Nat) : Int)) :: acc).map (Val.int .u8)).length == 80 - (79 - L)) = true := by
        rw [beq_iff_eq]; simp; omega
      have e10 := mk_tenth b
      have et : (mkN (b.v / 10)).v.toNat = b.v.toNat / 10 := by rw [e10]; omega
      apply js
      (conv => whnf) <;> repeat' (first | ((conv => arg 1; whnf); rw [hd]; conv => whnf) | (rw [byte48]; conv => whnf) | (rw [hn]; conv => whnf) | (rw [hA]; conv => whnf) | (rw [Int.toNat_natCast]; conv => whnf) | ((conv => arg 1; whnf); rw [takeK_eq]; conv => whnf) | ((conv => arg 1; whnf); rw [dropK_eq]; conv => whnf) | ((conv => arg 1; whnf); rw [appK_eq]; conv => whnf) | ((conv => arg 1; whnf); rw [htk]; conv => whnf) | ((conv => arg 1; whnf); rw [hll]; conv => whnf) | ((conv => arg 1; whnf); rw [strOfK_map]; conv => whnf) | (rw [eqN_zero]; conv => whnf) | (refine Need.mk (by first | decide | omega | (simp; done) | (simp; omega)) ?_; conv => whnf) | (refine Cond.tt rfl ?_; conv => whnf) | (refine Cond.ff rfl ?_; conv => whnf) | (refine Pick.tt rfl ?_; conv => whnf) | (refine Pick.ff rfl ?_; conv => whnf) | (refine Called.mk _ _ (smallN b 10 (by decide)) ?_; conv => whnf) | (refine Pick.dec (fun h => ?_) (fun h => ?_) <;> conv => whnf) | (refine Pick.beq (fun h => ?_) (fun h => ?_) <;> conv => whnf) | (refine Cond.dec (fun h => ?_) (fun h => ?_) <;> conv => whnf) | (refine Cond.beq (fun h => ?_) (fun h => ?_) <;> conv => whnf) | (refine Cond.nd (fun h => ?_) (fun h => ?_) <;> conv => whnf) | (refine Pick.nd (fun h => ?_) (fun h => ?_) <;> conv => whnf) | (refine Pick.mk (fun h => ?_) (fun h => ?_) <;> conv => whnf) | (refine Cond.mk (fun h => ?_) (fun h => ?_) <;> conv => whnf))
      · have hne : (mkN (b.v / 10)).v ≠ 0 := fun e => h (N.eq e)
        have hih := ih (L + 1) (mkN (b.v / 10)) ((48 + ((b.v.toNat % 10 : Nat) : Int)) :: acc) (upd cs (79 - L) (.int .u8 (48 + ((b.v.toNat % 10 : Nat) : Int)))) (by omega) hne (by rw [e10]; rw [Int.pow_succ] at hb; omega) (by simp [hacc]) (hst.upd _ _ _) (hlen _)
          (by rw [show 80 - (L + 1) = 79 - L by omega]; exact hdr) (by
            rw [htext, et, lo_step (by rw [← et]; intro e; apply hne; have := (mkN (b.v / 10)).h.1; omega)]
            simp only [List.map_append, List.append_assoc, List.map_cons, List.map_nil, List.cons_append, List.nil_append])
        rw [show 80 - (L + 1) = 79 - L by omega, ← hst.upd (79 - L) .u8 (48 + ((b.v.toNat % 10 : Nat) : Int)) (idx [0, 1])] at hih
        apply jw 0 [0, 1] [false, true, true, true, true] _ _ (by decide)
        exact hih
      · have hz : b.v.toNat / 10 = 0 := by rw [← et, h]; rfl
        refine End.mk ?_ rfl
        rw [htext, lo_end hz]
        rfl
  have e10 := mk_tenth a
  have ha := a.h
  have et : (mkN (a.v / 10)).v.toNat = a.v.toNat / 10 := by rw [e10]; unfold W at ha; omega
  (conv => whnf) <;> repeat' (first | (rw [byte48]; conv => whnf) | (rw [eqN_zero]; conv => whnf) | (refine Need.mk (by first | decide | omega | (simp; done) | (simp; omega)) ?_; conv => whnf) | (refine Cond.tt rfl ?_; conv => whnf) | (refine Cond.ff rfl ?_; conv => whnf) | (refine Pick.tt rfl ?_; conv => whnf) | (refine Pick.ff rfl ?_; conv => whnf) | (refine Called.mk _ _ (smallN a 10 (by decide)) ?_; conv => whnf) | (refine Pick.dec (fun h => ?_) (fun h => ?_) <;> conv => whnf) | (refine Pick.beq (fun h => ?_) (fun h => ?_) <;> conv => whnf) | (refine Cond.dec (fun h => ?_) (fun h => ?_) <;> conv => whnf) | (refine Cond.beq (fun h => ?_) (fun h => ?_) <;> conv => whnf) | (refine Cond.nd (fun h => ?_) (fun h => ?_) <;> conv => whnf) | (refine Pick.nd (fun h => ?_) (fun h => ?_) <;> conv => whnf) | (refine Pick.mk (fun h => ?_) (fun h => ?_) <;> conv => whnf) | (refine Cond.mk (fun h => ?_) (fun h => ?_) <;> conv => whnf))
  · have hne : (mkN (a.v / 10)).v ≠ 0 := fun e => h (N.eq e)
    have hih := key 77 1 (mkN (a.v / 10)) [48 + ((a.v.toNat % 10 : Nat) : Int)] (List.replicate 79 (.int .u8 0) ++ [.int .u8 (48 + ((a.v.toNat % 10 : Nat) : Int))]) (by omega) hne
      (by rw [e10]; unfold W at ha; have := ha.2; have e77 : (10 : Int) ^ 77 = 100000000000000000000000000000000000000000000000000000000000000000000000000000 := by decide
          rw [e77]; unfold B4 at this; omega) rfl (fun _ => rfl) rfl rfl (by
        rw [text_lo, et, lo_step (by rw [← et]; intro e; apply hne; have := (mkN (a.v / 10)).h.1; omega)]
        simp only [List.map_append, List.map_cons, List.map_nil])
    apply jw 0 [0, 1] [false, true, true, true, true] _ _ (by decide)
    exact hih
  · have hz : a.v.toNat / 10 = 0 := by rw [← et, h]; rfl
    refine End.mk ?_ rfl
    rw [text_lo, lo_end hz]
    rfl
end Go.Proofs.Ytenlkhlkohnmkaa
set_option linter.unusedVariables false
set_option linter.unusedSimpArgs false
set_option maxRecDepth 100000
namespace Go.Proofs.Ytenlkhlkohnmkaa
open Go.AM
def dig48 (n : Nat) : Int := 48 + ((n % 10 : Nat) : Int)
set_option maxHeartbeats 2000000 in
theorem rText_ret (a : N) : Ret Try.prog 33 [eN a] [] (.str (text a.v.toNat)) [] := by
  refine ret_of_body atNone tok mixed Try.func33 (by kernel_rfl) rfl (k := 52) (rs := [.tmp 2]) (by kernel_rfl) (by kernel_rfl) ?_
  (conv => whnf) <;> repeat' (first | (rw [eqN_zero]; conv => whnf) | (refine Need.mk (by first | decide | omega | (simp; done) | (simp; omega)) ?_; conv => whnf) | (refine Cond.tt rfl ?_; conv => whnf) | (refine Cond.ff rfl ?_; conv => whnf) | (refine Pick.tt rfl ?_; conv => whnf) | (refine Pick.ff rfl ?_; conv => whnf) | (refine Pick.dec (fun h => ?_) (fun h => ?_) <;> conv => whnf) | (refine Pick.beq (fun h => ?_) (fun h => ?_) <;> conv => whnf) | (refine Cond.dec (fun h => ?_) (fun h => ?_) <;> conv => whnf) | (refine Cond.beq (fun h => ?_) (fun h => ?_) <;> conv => whnf) | (refine Cond.nd (fun h => ?_) (fun h => ?_) <;> conv => whnf) | (refine Pick.nd (fun h => ?_) (fun h => ?_) <;> conv => whnf) | (refine Pick.mk (fun h => ?_) (fun h => ?_) <;> conv => whnf) | (refine Cond.mk (fun h => ?_) (fun h => ?_) <;> conv => whnf))
  · refine End.mk ?_ rfl
    have : a.v.toNat = 0 := by rw [h]; rfl
    rw [this]; rfl
  intro I hw hs
  have fin : ∀ (ds : List Int), 1 ≤ ds.length → ds.length ≤ 78 → text a.v.toNat = byteList ds.reverse → I [.und, .ptr 0 0, .str ⟨#[]⟩, .row 1 ds.length, .und, .und, .und, .und, .und, .und, .und, .und, .und, .und, .und, .und, .und, .und, .und, .und, .und, .und, .und, .und, .und, .und, .und, .und, .und, .und, .und, .und, .und, .und, .und, .und, .und, .und, .und, .und, .und, .und, .und, .und, .und, .und, .und, .und, .und, .und, .und, .und] [.cells (cN N0), .row 5 1 ds.length (gl ds) 0] := by
    intro ds hl1 hl2 htext
    apply hs
    (conv => whnf) <;> repeat' (first | (refine Need.mk (by first | decide | omega | (simp; done) | (simp; omega)) ?_; conv => whnf) | (refine Cond.tt rfl ?_; conv => whnf) | (refine Cond.ff rfl ?_; conv => whnf) | (refine Pick.tt rfl ?_; conv => whnf) | (refine Pick.ff rfl ?_; conv => whnf) | (refine Pick.dec (fun h => ?_) (fun h => ?_) <;> conv => whnf) | (refine Pick.beq (fun h => ?_) (fun h => ?_) <;> conv => whnf) | (refine Cond.dec (fun h => ?_) (fun h => ?_) <;> conv => whnf) | (refine Cond.beq (fun h => ?_) (fun h => ?_) <;> conv => whnf) | (refine Cond.nd (fun h => ?_) (fun h => ?_) <;> conv => whnf) | (refine Pick.nd (fun h => ?_) (fun h => ?_) <;> conv => whnf) | (refine Pick.mk (fun h => ?_) (fun h => ?_) <;> conv => whnf) | (refine Cond.mk (fun h => ?_) (fun h => ?_) <;> conv => whnf))
    intro J jw js
    have key2 : ∀ (m j : Nat) (l : List Int), Turned ds j l → 2 * j ≤ ds.length → ds.length ≤ 2 * (j + m) + 1 → J [.und, .und, .str ⟨#[]⟩, .row 1 ds.length, .und, .und, .int .i64 (j : Nat), .int .i64 (ds.length - 1 - j : Nat), .und, .und, .und, .und, .und, .und, .und, .und, .und, .und, .und, .und, .und, .und, .und, .und, .und, .und, .und, .und, .und, .und, .und, .und, .und, .und, .und, .und, .und, .und, .und, .und, .und, .und, .und, .und, .und, .und, .und, .und, .und, .und, .und, .und] [.cells (cN N0), .row 5 1 ds.length (gl l) 0] := by
      intro m
      induction m with
      | zero =>
        intro j l hT h1 h2
        have e := hT.done (by omega)
        have hstr : bytesStr ds.length (gl l) = text a.v.toNat := by rw [htext, ← e, ← hT.1]; exact gl_str l
        apply js
        conv => whnf
        refine Cond.ff (decF (by omega)) ?_
        (conv => whnf) <;> repeat' (first | (rw [hstr]; conv => whnf) | (refine Need.mk ⟨Nat.le_refl _, fun i hi => gl_byte i (by rw [hT.1]; exact hi)⟩ ?_; conv => whnf) | (refine Need.mk (by first | decide | omega | (simp; done) | (simp; omega)) ?_; conv => whnf) | (refine Cond.tt rfl ?_; conv => whnf) | (refine Cond.ff rfl ?_; conv => whnf) | (refine Pick.tt rfl ?_; conv => whnf) | (refine Pick.ff rfl ?_; conv => whnf) | (refine Pick.dec (fun h => ?_) (fun h => ?_) <;> conv => whnf) | (refine Pick.beq (fun h => ?_) (fun h => ?_) <;> conv => whnf) | (refine Cond.dec (fun h => ?_) (fun h => ?_) <;> conv => whnf) | (refine Cond.beq (fun h => ?_) (fun h => ?_) <;> conv => whnf) | (refine Cond.nd (fun h => ?_) (fun h => ?_) <;> conv => whnf) | (refine Pick.nd (fun h => ?_) (fun h => ?_) <;> conv => whnf) | (refine Pick.mk (fun h => ?_) (fun h => ?_) <;> conv => whnf) | (refine Cond.mk (fun h => ?_) (fun h => ?_) <;> conv => whnf))
        exact End.mk rfl rfl
      | succ m ih =>
        intro j l hT h1 h2
        rcases (by omega : ds.length ≤ 2 * j + 1 ∨ 2 * j + 1 < ds.length) with hc | hc
        · exact ih j l hT h1 (by omega)
        · obtain ⟨x, y, hx, hy, hT2⟩ := hT.step hc
          have g1 := gl_set (ds := l) (i := j) y (by rw [hT.1]; omega)
          have g2 := gl_set (ds := l.set j y) (i := ds.length - 1 - j) x (by simp [hT.1]; omega)
          apply js
          conv => whnf
          refine Cond.tt (decT (by omega)) ?_
          (conv => whnf) <;> repeat' (first | (rw [g2]; conv => whnf) | (rw [g1]; conv => whnf) | (rw [Int.toNat_natCast]; conv => whnf) | (rw [gl_get hx]; conv => whnf) | (rw [gl_get hy]; conv => whnf) | (refine Need.mk (by first | decide | omega | (simp; done) | (simp; omega)) ?_; conv => whnf) | (refine Cond.tt rfl ?_; conv => whnf) | (refine Cond.ff rfl ?_; conv => whnf) | (refine Pick.tt rfl ?_; conv => whnf) | (refine Pick.ff rfl ?_; conv => whnf) | (refine Pick.dec (fun h => ?_) (fun h => ?_) <;> conv => whnf) | (refine Pick.beq (fun h => ?_) (fun h => ?_) <;> conv => whnf) | (refine Cond.dec (fun h => ?_) (fun h => ?_) <;> conv => whnf) | (refine Cond.beq (fun h => ?_) (fun h => ?_) <;> conv => whnf) | (refine Cond.nd (fun h => ?_) (fun h => ?_) <;> conv => whnf) | (refine Pick.nd (fun h => ?_) (fun h => ?_) <;> conv => whnf) | (refine Pick.mk (fun h => ?_) (fun h => ?_) <;> conv => whnf) | (refine Cond.mk (fun h => ?_) (fun h => ?_) <;> conv => whnf))
          rw [show IntKind.i64.wrap ((j : Int) + 1) = ((j + 1 : Nat) : Int) by rw [wi64_id (by omega) (by omega)]; omega, show IntKind.i64.wrap (((ds.length - 1 - j : Nat) : Int) - 1) = ((ds.length - 1 - (j + 1) : Nat) : Int) by rw [wi64_id (by omega) (by omega)]; omega]
          apply jw [0, 1] [false, false, true, true, false, false, true, true] _ _ (by decide)
          exact ih (j + 1) _ hT2 (by omega) (by omega)
    rw [show IntKind.i64.wrap ((ds.length : Int) - 1) = ((ds.length - 1 - 0 : Nat) : Int) by rw [wi64_id (by omega) (by omega)]; omega]
    apply jw [0, 1] [false, false, true, true, false, false, true, true] _ _ (by decide)
    exact key2 40 0 ds (.start ds) (by omega) (by omega)
  have key : ∀ (k : Nat) (b : N) (ds : List Int), b.v < 10 ^ k → 1 ≤ ds.length → ds.length + k ≤ 78 → text a.v.toNat = byteList (ds ++ (dl k b.v.toNat).map (fun (d : Nat) => (48 + d : Int))).reverse →
      I [.und, .ptr 0 0, .str ⟨#[]⟩, .row 1 ds.length, .und, .und, .und, .und, .und, .und, .und, .und, .und, .und, .und, .und, .und, .und, .und, .und, .und, .und, .und, .und, .und, .und, .und, .und, .und, .und, .und, .und, .und, .und, .und, .und, .und, .und, .und, .und, .und, .und, .und, .und, .und, .und, .und, .und, .und, .und, .und, .und] [.cells (cN b), .row 5 1 ds.length (gl ds) 0] := by
    intro k
    induction k with
    | zero =>
      intro b ds hb hl1 hl2 hds
      have hbp := b.h.1
      have e : (10 : Int) ^ 0 = 1 := rfl
      rw [e] at hb
      have hb0 : b = N0 := N.eq (show b.v = 0 by omega)
      subst hb0
      exact fin ds hl1 (by omega) (by simpa [dl] using hds)
    | succ k ih =>
      intro b ds hb hl1 hl2 hds
      have hbp := b.h.1
      by_cases hb0 : b = N0
      · subst hb0
        exact fin ds hl1 (by omega) (by simpa [dl, N0] using hds)
      have hbn : b.v.toNat ≠ 0 := fun e => hb0 (N.eq (show b.v = 0 by omega))
      have e10 := mk_tenth b
      have et : (mkN (b.v / 10)).v.toNat = b.v.toNat / 10 := by rw [e10]; omega
      apply hs
      (conv => whnf) <;> repeat' (first | (rw [byte48]; conv => whnf) | (rw [gl_append]; conv => whnf) | (rw [eqN_zero]; conv => whnf) | (refine Need.mk (by first | decide | omega | (simp; done) | (simp; omega)) ?_; conv => whnf) | (refine Cond.tt rfl ?_; conv => whnf) | (refine Cond.ff rfl ?_; conv => whnf) | (refine Pick.tt rfl ?_; conv => whnf) | (refine Pick.ff rfl ?_; conv => whnf) | (refine Called.mk _ _ (rsmallN b 10 (by decide)) ?_; conv => whnf) | (refine Pick.dec (fun h => ?_) (fun h => ?_) <;> conv => whnf) | (refine Pick.beq (fun h => ?_) (fun h => ?_) <;> conv => whnf) | (refine Cond.dec (fun h => ?_) (fun h => ?_) <;> conv => whnf) | (refine Cond.beq (fun h => ?_) (fun h => ?_) <;> conv => whnf) | (refine Cond.nd (fun h => ?_) (fun h => ?_) <;> conv => whnf) | (refine Pick.nd (fun h => ?_) (fun h => ?_) <;> conv => whnf) | (refine Pick.mk (fun h => ?_) (fun h => ?_) <;> conv => whnf) | (refine Cond.mk (fun h => ?_) (fun h => ?_) <;> conv => whnf))
      · apply hw [0, 4] [false, true, true, true] _ _ (by decide)
        have hih := ih (mkN (b.v / 10)) (ds ++ [48 + ((b.v.toNat % 10 : Nat) : Int)]) (by rw [e10]; rw [Int.pow_succ] at hb; omega) (by simp) (by simp; omega) (by
          rw [hds, et]
          simp only [dl, hbn, if_false, List.map_cons, List.append_assoc, List.cons_append, List.nil_append])
        rw [show (ds ++ [48 + ((b.v.toNat % 10 : Nat) : Int)]).length = ds.length + 1 by simp] at hih
        exact hih
      · exact absurd h hb0
  have hbn : a.v.toNat ≠ 0 := fun e => h (N.eq (show a.v = 0 by have := a.h.1; omega))
  have e10 := mk_tenth a
  have et : (mkN (a.v / 10)).v.toNat = a.v.toNat / 10 := by rw [e10]; have := a.h.1; omega
  apply hs
  (conv => whnf) <;> repeat' (first | (rw [byte48]; conv => whnf) | (rw [gl_one]; conv => whnf) | (rw [eqN_zero]; conv => whnf) | (refine Need.mk (by first | decide | omega | (simp; done) | (simp; omega)) ?_; conv => whnf) | (refine Cond.tt rfl ?_; conv => whnf) | (refine Cond.ff rfl ?_; conv => whnf) | (refine Pick.tt rfl ?_; conv => whnf) | (refine Pick.ff rfl ?_; conv => whnf) | (refine Called.mk _ _ (rsmallN a 10 (by decide)) ?_; conv => whnf) | (refine Pick.dec (fun h => ?_) (fun h => ?_) <;> conv => whnf) | (refine Pick.beq (fun h => ?_) (fun h => ?_) <;> conv => whnf) | (refine Cond.dec (fun h => ?_) (fun h => ?_) <;> conv => whnf) | (refine Cond.beq (fun h => ?_) (fun h => ?_) <;> conv => whnf) | (refine Cond.nd (fun h => ?_) (fun h => ?_) <;> conv => whnf) | (refine Pick.nd (fun h => ?_) (fun h => ?_) <;> conv => whnf) | (refine Pick.mk (fun h => ?_) (fun h => ?_) <;> conv => whnf) | (refine Cond.mk (fun h => ?_) (fun h => ?_) <;> conv => whnf))
  · apply hw [0, 3] [false, true, true, true] _ _ (by decide)
    refine key 77 (mkN (a.v / 10)) [48 + ((a.v.toNat % 10 : Nat) : Int)] ?_ (by simp) (by simp) ?_
    · rw [e10]
      have ha := a.h
      unfold W at ha
      have := ha.2
      have e77 : (10 : Int) ^ 77 = 100000000000000000000000000000000000000000000000000000000000000000000000000000 := by decide
      rw [e77]; unfold B4 at this; omega
    · rw [text_lo, et, lo, if_neg hbn, List.map_reverse]
      simp only [dl, hbn, if_false, List.map_cons, List.cons_append, List.nil_append]
  · contradiction
end Go.Proofs.Ytenlkhlkohnmkaa
set_option linter.unusedVariables false
set_option linter.unusedSimpArgs false
set_option maxRecDepth 100000
namespace Go.Proofs.Ytenlkhlkohnmkaa
open Go.AM
theorem str_same (s : ByteArray) : (s.toList == s.toList) = true := beq_self_eq_true _
theorem limbTexts_ret (a : N) (s : ByteArray) (n : Int) (hs63 : s.size ≤ 9223372036854775807) : Ret Try.prog 6 [eN a, .str s, .int .i64 n] [] (.bool true) [] := by
  rcases (by omega : (0 ≤ n ∧ n ≤ 77) ∨ (n < 0 ∨ n > 77)) with hn | hn
  · refine ret_of_body atNone tok mixed Try.func6 (by kernel_rfl) rfl (k := 63) (rs := [.tmp 6]) (by kernel_rfl) (by kernel_rfl) ?_
    (conv => whnf) <;> repeat' (first | (refine Need.mk (by first | decide | omega | (simp; done) | (simp; omega)) ?_; conv => whnf) | (refine Cond.tt rfl ?_; conv => whnf) | (refine Cond.ff rfl ?_; conv => whnf) | (refine Pick.tt rfl ?_; conv => whnf) | (refine Pick.ff rfl ?_; conv => whnf) | (refine Called.mk _ _ (Parse_ret s hs63) ?_; conv => whnf) | (refine Called.mk _ _ (rParse_ret s hs63) ?_; conv => whnf) | (refine Called.mk _ _ (Ten_ret n hn.1 hn.2) ?_; conv => whnf) | (refine Called.mk _ _ (rTen_ret n hn.1 hn.2) ?_; conv => whnf) | (refine Called.mk _ _ (live1) ?_; conv => whnf) | (refine Called.mk _ _ (Text_ret a) ?_; conv => whnf) | (refine Called.mk _ _ (rText_ret a) ?_; conv => whnf) | (refine Pick.mk (fun h => ?_) (fun h => ?_) <;> conv => whnf) | (refine Cond.mk (fun h => ?_) (fun h => ?_) <;> conv => whnf))
    all_goals
      refine End.mk (bool_eq ?_) rfl
      simp only [eqN_limbs, str_same] at *
      simp_all
  · refine ret_of_body atNone tok mixed Try.func6 (by kernel_rfl) rfl (k := 63) (rs := [.tmp 6]) (by kernel_rfl) (by kernel_rfl) ?_
    (conv => whnf) <;> repeat' (first | (refine Need.mk (by first | decide | omega | (simp; done) | (simp; omega)) ?_; conv => whnf) | (refine Cond.tt rfl ?_; conv => whnf) | (refine Cond.ff rfl ?_; conv => whnf) | (refine Pick.tt rfl ?_; conv => whnf) | (refine Pick.ff rfl ?_; conv => whnf) | (refine Called.mk _ _ (Parse_ret s hs63) ?_; conv => whnf) | (refine Called.mk _ _ (rParse_ret s hs63) ?_; conv => whnf) | (refine Called.mk _ _ (Ten_bad n hn) ?_; conv => whnf) | (refine Called.mk _ _ (rTen_bad n hn) ?_; conv => whnf) | (refine Called.mk _ _ (live1) ?_; conv => whnf) | (refine Called.mk _ _ (Text_ret a) ?_; conv => whnf) | (refine Called.mk _ _ (rText_ret a) ?_; conv => whnf) | (refine Pick.mk (fun h => ?_) (fun h => ?_) <;> conv => whnf) | (refine Cond.mk (fun h => ?_) (fun h => ?_) <;> conv => whnf))
    all_goals
      refine End.mk (bool_eq ?_) rfl
      simp only [eqN_limbs, str_same] at *
      simp_all
theorem limbBack_ret (a b : N) : Ret Try.prog 9 [eN a, eN b] [] (.bool true) [] := by
  have ha := a.h; have hb := b.h
  have e1 : mkN ((mkN (a.v + b.v)).v - b.v) = a := by
    apply N.eq; simp only [mkN]; unfold W B4 at *; omega
  have hm := mul_W a b
  have hh : (mkN (a.v * b.v / B4)).v = a.v * b.v / B4 := mkN_v hm
  have hl : (mkN (a.v * b.v)).v = a.v * b.v % B4 := rfl
  have hp := parse_text (n := a.v.toNat) (by unfold W at ha; omega)
  have ea : mkN (a.v.toNat : Int) = a := by rw [Int.toNat_of_nonneg ha.1]; exact mkN_val a
  rw [ea] at hp
  have hpr := Parse_ret (text a.v.toNat) (by have := text_small (n := a.v.toNat); omega)
  rw [hp] at hpr
  by_cases h0 : b = N0
  · refine ret_of_body atNone tok mixed Try.func9 (by kernel_rfl) rfl (k := 77) (rs := [.tmp 4]) (by kernel_rfl) (by kernel_rfl) ?_
    (conv => whnf) <;> repeat' (first | (rw [eqN_zero, decT h0]; conv => whnf) | (refine Need.mk (by first | decide | omega | (simp; done) | (simp; omega)) ?_; conv => whnf) | (refine Cond.tt rfl ?_; conv => whnf) | (refine Cond.ff rfl ?_; conv => whnf) | (refine Pick.tt rfl ?_; conv => whnf) | (refine Pick.ff rfl ?_; conv => whnf) | (refine Called.mk _ _ (Add_ret a b) ?_; conv => whnf) | (refine Called.mk _ _ (Sub_ret (mkN (a.v + b.v)) b) ?_; conv => whnf) | (refine Called.mk _ _ (live1) ?_; conv => whnf) | (refine Called.mk _ _ (MulN a b) ?_; conv => whnf) | (refine Called.mk _ _ (Text_ret a) ?_; conv => whnf) | (refine Called.mk _ _ (hpr) ?_; conv => whnf) | (refine Pick.mk (fun h => ?_) (fun h => ?_) <;> conv => whnf) | (refine Cond.mk (fun h => ?_) (fun h => ?_) <;> conv => whnf))
    all_goals
      refine End.mk (bool_eq ?_) rfl
      simp only [eqN_limbs, eqN_zero, e1] at *
      simp_all
  · have hb0 : b.v ≠ 0 := fun e => h0 (N.eq e)
    have hlt : (mkN (a.v * b.v / B4)).v < b.v := by
      rw [hh]
      refine Int.ediv_lt_of_lt_mul (by decide) ?_
      have h1 : a.v * b.v ≤ (B4 - 1) * b.v := Int.mul_le_mul_of_nonneg_right (by unfold W at ha; omega) hb.1
      rw [Int.sub_mul, Int.one_mul, Int.mul_comm B4 b.v] at h1
      unfold W at hb; omega
    have hd := Div_ok (mkN (a.v * b.v / B4)) (mkN (a.v * b.v)) b hlt
    have en : (mkN (a.v * b.v / B4)).v * B4 + (mkN (a.v * b.v)).v = a.v * b.v := by
      rw [hh, hl, Int.mul_comm]; exact Int.mul_ediv_add_emod _ _
    rw [en, Int.mul_ediv_cancel _ hb0, Int.mul_emod_left, mkN_val, mkN_0] at hd
    refine ret_of_body atNone tok mixed Try.func9 (by kernel_rfl) rfl (k := 77) (rs := [.tmp 4]) (by kernel_rfl) (by kernel_rfl) ?_
    (conv => whnf) <;> repeat' (first | (rw [eqN_zero, decF h0]; conv => whnf) | (refine Need.mk (by first | decide | omega | (simp; done) | (simp; omega)) ?_; conv => whnf) | (refine Cond.tt rfl ?_; conv => whnf) | (refine Cond.ff rfl ?_; conv => whnf) | (refine Pick.tt rfl ?_; conv => whnf) | (refine Pick.ff rfl ?_; conv => whnf) | (refine Called.mk _ _ (Add_ret a b) ?_; conv => whnf) | (refine Called.mk _ _ (Sub_ret (mkN (a.v + b.v)) b) ?_; conv => whnf) | (refine Called.mk _ _ (live1) ?_; conv => whnf) | (refine Called.mk _ _ (MulN a b) ?_; conv => whnf) | (refine Called.mk _ _ (Text_ret a) ?_; conv => whnf) | (refine Called.mk _ _ (hpr) ?_; conv => whnf) | (refine Called.mk _ _ (hd) ?_; conv => whnf) | (refine Pick.mk (fun h => ?_) (fun h => ?_) <;> conv => whnf) | (refine Cond.mk (fun h => ?_) (fun h => ?_) <;> conv => whnf))
    all_goals
      refine End.mk (bool_eq ?_) rfl
      simp only [eqN_limbs, eqN_zero, e1] at *
      simp_all
end Go.Proofs.Ytenlkhlkohnmkaa
