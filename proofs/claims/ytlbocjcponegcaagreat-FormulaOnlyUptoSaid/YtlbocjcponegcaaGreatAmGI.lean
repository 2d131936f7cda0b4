/- summary.AddWide, turned, Widen, Narrow. -/
import Derived.Test.YtlbocjcponegcaaGreatAmGH
import Derived.Test.YtlbocjcponegcaaGreatAmGV
set_option linter.unusedVariables false
set_option linter.unusedSimpArgs false
set_option maxRecDepth 100000
namespace Go.Proofs.YtlbocjcponegcaaGreat
open Go.AM
set_option maxHeartbeats 2000000 in
theorem AddWide_ret (a b : Wd) : Ret Tryz.prog 195 [eWd a, eWd b] [] (eWd (mkW (a.v + b.v))) [] := by
  have ea := wlimbs_v a; have eb := wlimbs_v b
  have a0 := m0_U a; have a1 := m1_U a; have a2 := m2_U a; have a3 := m3_U a; have a4 := m4_U a
  have b0 := m0_U b; have b1 := m1_U b; have b2 := m2_U b; have b3 := m3_U b; have b4 := m4_U b
  refine ret_of_body atNone tok mixed Tryz.func195 (by kernel_rfl) rfl (k := 39) (rs := [.cell 4 69]) (by kernel_rfl) (by kernel_rfl) ?_
  (conv => whnf) <;> repeat' (first | ((first | refine wN ?_ | refine wNc ?_ | refine wA ?_ | refine wB ?_ | refine wC ?_ | refine wD ?_); conv => whnf) | ((first | apply Pick.mk | apply Cond.mk) <;> intro h <;> conv => whnf))
  intro I hw hs
  have o5 : ∀ c x0 x1 x2 x3 x4 : Int, U x0 → U x1 → U x2 → U x3 → U x4 → (a.v + b.v) % B5 = val5 x0 x1 x2 x3 x4 % B5 → I [.und, .und, .ptr 0 0, .ptr 1 0, .ptr 2 0, .int .u64 c, .und, .und, .und, .int .i64 5, .und, .und, .und, .und, .und, .und, .und, .und, .und, .und, .und, .und, .und, .und, .und, .und, .und, .und, .und, .und, .und, .und, .und, .und, .und, .und, .und, .und, .und] [.cells [.int .u64 x0, .int .u64 x1, .int .u64 x2, .int .u64 x3, .int .u64 x4], .cells (cWd b), .cells (cWd Wd0)] := by
    intro c x0 x1 x2 x3 x4 h0 h1 h2 h3 h4 he
    apply hs
    conv => whnf
    (repeat (first | (refine Cond.tt rfl ?_; conv => whnf) | (refine Cond.ff rfl ?_; conv => whnf) | (refine Pick.tt rfl ?_; conv => whnf) | (refine Pick.ff rfl ?_; conv => whnf) | (refine Need.mk (by decide) ?_; conv => whnf)))
    refine End.mk (eWd_is h0 h1 h2 h3 h4 ?_) rfl
    have := val5_lt h0 h1 h2 h3 h4
    rw [he, Int.emod_eq_of_lt this.1 this.2]
  have o4 : ∀ c x0 x1 x2 x3 x4 : Int, (c = 0 ∨ c = 1) → U x0 → U x1 → U x2 → U x3 → U x4 → (a.v + b.v) % B5 = (val5 x0 x1 x2 x3 x4 + 115792089237316195423570985008687907853269984665640564039457584007913129639936 * (c + (m4 b + 18446744073709551616 * 0))) % B5 → I [.und, .und, .ptr 0 0, .ptr 1 0, .ptr 2 0, .int .u64 c, .und, .und, .und, .int .i64 4, .und, .und, .und, .und, .und, .und, .und, .und, .und, .und, .und, .und, .und, .und, .und, .und, .und, .und, .und, .und, .und, .und, .und, .und, .und, .und, .und, .und, .und] [.cells [.int .u64 x0, .int .u64 x1, .int .u64 x2, .int .u64 x3, .int .u64 x4], .cells (cWd b), .cells (cWd Wd0)] := by
    intro c x0 x1 x2 x3 x4 hc h0 h1 h2 h3 h4 he
    apply hs
    (conv => whnf) <;> repeat' (first | (rw [w64]; conv => whnf) | (rw [show IntKind.i64.wrap (4 + 1) = 5 from by decide]; conv => whnf) | ((first | refine wN ?_ | refine wNc ?_ | refine wA ?_ | refine wB ?_ | refine wC ?_ | refine wD ?_); conv => whnf) | ((first | apply Pick.dec | apply Pick.beq | apply Cond.dec | apply Cond.beq | apply Cond.nd | apply Pick.nd | apply Pick.mk | apply Cond.mk) <;> intro h <;> conv => whnf))
    all_goals
      apply hw [0, 1, 2] [false, false, true, true, true, true, false, false, false, true] _ _ (by decide)
      first
        | (refine o5 1 x0 x1 x2 x3 (((x4 + m4 b) % 18446744073709551616 + c) % 18446744073709551616)  (by assumption) (by assumption) (by assumption) (by assumption) (U_mod _) ?_; rw [he]; unfold U at *; unfold val5 B5; omega)
        | (refine o5 0 x0 x1 x2 x3 (((x4 + m4 b) % 18446744073709551616 + c) % 18446744073709551616)  (by assumption) (by assumption) (by assumption) (by assumption) (U_mod _) ?_; rw [he]; unfold U at *; unfold val5 B5; omega)
  have o3 : ∀ c x0 x1 x2 x3 x4 : Int, (c = 0 ∨ c = 1) → U x0 → U x1 → U x2 → U x3 → U x4 → (a.v + b.v) % B5 = (val5 x0 x1 x2 x3 x4 + 6277101735386680763835789423207666416102355444464034512896 * (c + (m3 b + 18446744073709551616 * (m4 b + 18446744073709551616 * 0)))) % B5 → I [.und, .und, .ptr 0 0, .ptr 1 0, .ptr 2 0, .int .u64 c, .und, .und, .und, .int .i64 3, .und, .und, .und, .und, .und, .und, .und, .und, .und, .und, .und, .und, .und, .und, .und, .und, .und, .und, .und, .und, .und, .und, .und, .und, .und, .und, .und, .und, .und] [.cells [.int .u64 x0, .int .u64 x1, .int .u64 x2, .int .u64 x3, .int .u64 x4], .cells (cWd b), .cells (cWd Wd0)] := by
    intro c x0 x1 x2 x3 x4 hc h0 h1 h2 h3 h4 he
    apply hs
    (conv => whnf) <;> repeat' (first | (rw [w64]; conv => whnf) | (rw [show IntKind.i64.wrap (3 + 1) = 4 from by decide]; conv => whnf) | ((first | refine wN ?_ | refine wNc ?_ | refine wA ?_ | refine wB ?_ | refine wC ?_ | refine wD ?_); conv => whnf) | ((first | apply Pick.dec | apply Pick.beq | apply Cond.dec | apply Cond.beq | apply Cond.nd | apply Pick.nd | apply Pick.mk | apply Cond.mk) <;> intro h <;> conv => whnf))
    all_goals
      apply hw [0, 1, 2] [false, false, true, true, true, true, false, false, false, true] _ _ (by decide)
      first
        | (refine o4 1 x0 x1 x2 (((x3 + m3 b) % 18446744073709551616 + c) % 18446744073709551616) x4 (.inr rfl) (by assumption) (by assumption) (by assumption) (U_mod _) (by assumption) ?_; rw [he]; unfold U at *; unfold val5 B5; omega)
        | (refine o4 0 x0 x1 x2 (((x3 + m3 b) % 18446744073709551616 + c) % 18446744073709551616) x4 (.inl rfl) (by assumption) (by assumption) (by assumption) (U_mod _) (by assumption) ?_; rw [he]; unfold U at *; unfold val5 B5; omega)
  have o2 : ∀ c x0 x1 x2 x3 x4 : Int, (c = 0 ∨ c = 1) → U x0 → U x1 → U x2 → U x3 → U x4 → (a.v + b.v) % B5 = (val5 x0 x1 x2 x3 x4 + 340282366920938463463374607431768211456 * (c + (m2 b + 18446744073709551616 * (m3 b + 18446744073709551616 * (m4 b + 18446744073709551616 * 0))))) % B5 → I [.und, .und, .ptr 0 0, .ptr 1 0, .ptr 2 0, .int .u64 c, .und, .und, .und, .int .i64 2, .und, .und, .und, .und, .und, .und, .und, .und, .und, .und, .und, .und, .und, .und, .und, .und, .und, .und, .und, .und, .und, .und, .und, .und, .und, .und, .und, .und, .und] [.cells [.int .u64 x0, .int .u64 x1, .int .u64 x2, .int .u64 x3, .int .u64 x4], .cells (cWd b), .cells (cWd Wd0)] := by
    intro c x0 x1 x2 x3 x4 hc h0 h1 h2 h3 h4 he
    apply hs
    (conv => whnf) <;> repeat' (first | (rw [w64]; conv => whnf) | (rw [show IntKind.i64.wrap (2 + 1) = 3 from by decide]; conv => whnf) | ((first | refine wN ?_ | refine wNc ?_ | refine wA ?_ | refine wB ?_ | refine wC ?_ | refine wD ?_); conv => whnf) | ((first | apply Pick.dec | apply Pick.beq | apply Cond.dec | apply Cond.beq | apply Cond.nd | apply Pick.nd | apply Pick.mk | apply Cond.mk) <;> intro h <;> conv => whnf))
    all_goals
      apply hw [0, 1, 2] [false, false, true, true, true, true, false, false, false, true] _ _ (by decide)
      first
        | (refine o3 1 x0 x1 (((x2 + m2 b) % 18446744073709551616 + c) % 18446744073709551616) x3 x4 (.inr rfl) (by assumption) (by assumption) (U_mod _) (by assumption) (by assumption) ?_; rw [he]; unfold U at *; unfold val5 B5; omega)
        | (refine o3 0 x0 x1 (((x2 + m2 b) % 18446744073709551616 + c) % 18446744073709551616) x3 x4 (.inl rfl) (by assumption) (by assumption) (U_mod _) (by assumption) (by assumption) ?_; rw [he]; unfold U at *; unfold val5 B5; omega)
  have o1 : ∀ c x0 x1 x2 x3 x4 : Int, (c = 0 ∨ c = 1) → U x0 → U x1 → U x2 → U x3 → U x4 → (a.v + b.v) % B5 = (val5 x0 x1 x2 x3 x4 + 18446744073709551616 * (c + (m1 b + 18446744073709551616 * (m2 b + 18446744073709551616 * (m3 b + 18446744073709551616 * (m4 b + 18446744073709551616 * 0)))))) % B5 → I [.und, .und, .ptr 0 0, .ptr 1 0, .ptr 2 0, .int .u64 c, .und, .und, .und, .int .i64 1, .und, .und, .und, .und, .und, .und, .und, .und, .und, .und, .und, .und, .und, .und, .und, .und, .und, .und, .und, .und, .und, .und, .und, .und, .und, .und, .und, .und, .und] [.cells [.int .u64 x0, .int .u64 x1, .int .u64 x2, .int .u64 x3, .int .u64 x4], .cells (cWd b), .cells (cWd Wd0)] := by
    intro c x0 x1 x2 x3 x4 hc h0 h1 h2 h3 h4 he
    apply hs
    (conv => whnf) <;> repeat' (first | (rw [w64]; conv => whnf) | (rw [show IntKind.i64.wrap (1 + 1) = 2 from by decide]; conv => whnf) | ((first | refine wN ?_ | refine wNc ?_ | refine wA ?_ | refine wB ?_ | refine wC ?_ | refine wD ?_); conv => whnf) | ((first | apply Pick.dec | apply Pick.beq | apply Cond.dec | apply Cond.beq | apply Cond.nd | apply Pick.nd | apply Pick.mk | apply Cond.mk) <;> intro h <;> conv => whnf))
    all_goals
      apply hw [0, 1, 2] [false, false, true, true, true, true, false, false, false, true] _ _ (by decide)
      first
        | (refine o2 1 x0 (((x1 + m1 b) % 18446744073709551616 + c) % 18446744073709551616) x2 x3 x4 (.inr rfl) (by assumption) (U_mod _) (by assumption) (by assumption) (by assumption) ?_; rw [he]; unfold U at *; unfold val5 B5; omega)
        | (refine o2 0 x0 (((x1 + m1 b) % 18446744073709551616 + c) % 18446744073709551616) x2 x3 x4 (.inl rfl) (by assumption) (U_mod _) (by assumption) (by assumption) (by assumption) ?_; rw [he]; unfold U at *; unfold val5 B5; omega)
  have o0 : ∀ c x0 x1 x2 x3 x4 : Int, (c = 0 ∨ c = 1) → U x0 → U x1 → U x2 → U x3 → U x4 → (a.v + b.v) % B5 = (val5 x0 x1 x2 x3 x4 + 1 * (c + (m0 b + 18446744073709551616 * (m1 b + 18446744073709551616 * (m2 b + 18446744073709551616 * (m3 b + 18446744073709551616 * (m4 b + 18446744073709551616 * 0))))))) % B5 → I [.und, .und, .ptr 0 0, .ptr 1 0, .ptr 2 0, .int .u64 c, .und, .und, .und, .int .i64 0, .und, .und, .und, .und, .und, .und, .und, .und, .und, .und, .und, .und, .und, .und, .und, .und, .und, .und, .und, .und, .und, .und, .und, .und, .und, .und, .und, .und, .und] [.cells [.int .u64 x0, .int .u64 x1, .int .u64 x2, .int .u64 x3, .int .u64 x4], .cells (cWd b), .cells (cWd Wd0)] := by
    intro c x0 x1 x2 x3 x4 hc h0 h1 h2 h3 h4 he
    apply hs
    (conv => whnf) <;> repeat' (first | (rw [w64]; conv => whnf) | (rw [show IntKind.i64.wrap (0 + 1) = 1 from by decide]; conv => whnf) | ((first | refine wN ?_ | refine wNc ?_ | refine wA ?_ | refine wB ?_ | refine wC ?_ | refine wD ?_); conv => whnf) | ((first | apply Pick.dec | apply Pick.beq | apply Cond.dec | apply Cond.beq | apply Cond.nd | apply Pick.nd | apply Pick.mk | apply Cond.mk) <;> intro h <;> conv => whnf))
    all_goals
      apply hw [0, 1, 2] [false, false, true, true, true, true, false, false, false, true] _ _ (by decide)
      first
        | (refine o1 1 (((x0 + m0 b) % 18446744073709551616 + c) % 18446744073709551616) x1 x2 x3 x4 (.inr rfl) (U_mod _) (by assumption) (by assumption) (by assumption) (by assumption) ?_; rw [he]; unfold U at *; unfold val5 B5; omega)
        | (refine o1 0 (((x0 + m0 b) % 18446744073709551616 + c) % 18446744073709551616) x1 x2 x3 x4 (.inl rfl) (U_mod _) (by assumption) (by assumption) (by assumption) (by assumption) ?_; rw [he]; unfold U at *; unfold val5 B5; omega)
  apply hw [0, 1, 2] [false, false, true, true, true, true, false, false, false, true] _ _ (by decide)
  refine o0 0 (m0 a) (m1 a) (m2 a) (m3 a) (m4 a) (.inl rfl) a0 a1 a2 a3 a4 ?_
  rw [ea, eb]
  congr 1
  unfold val5
  omega
theorem AddWide_lim (x0 x1 x2 x3 x4 y0 y1 y2 y3 y4 : Int) (h0 : U x0) (h1 : U x1) (h2 : U x2) (h3 : U x3) (h4 : U x4) (g0 : U y0) (g1 : U y1) (g2 : U y2) (g3 : U y3) (g4 : U y4) : Ret Tryz.prog 195 [.agg [.int .u64 x0, .int .u64 x1, .int .u64 x2, .int .u64 x3, .int .u64 x4], .agg [.int .u64 y0, .int .u64 y1, .int .u64 y2, .int .u64 y3, .int .u64 y4]] [] (eWd (mkW (val5 x0 x1 x2 x3 x4 + val5 y0 y1 y2 y3 y4))) [] := by
  rw [ofW_agg h0 h1 h2 h3 h4, ofW_agg g0 g1 g2 g3 g4]
  have h := AddWide_ret (ofW x0 x1 x2 x3 x4) (ofW y0 y1 y2 y3 y4)
  rwa [show (ofW x0 x1 x2 x3 x4).v = val5 x0 x1 x2 x3 x4 from mkW_v (val5_lt h0 h1 h2 h3 h4), show (ofW y0 y1 y2 y3 y4).v = val5 y0 y1 y2 y3 y4 from mkW_v (val5_lt g0 g1 g2 g3 g4)] at h
theorem U_not {x : Int} (h : U x) : U (18446744073709551615 - x) := by unfold U at *; omega
theorem turned_lim (x0 x1 x2 x3 x4 : Int) (h0 : U x0) (h1 : U x1) (h2 : U x2) (h3 : U x3) (h4 : U x4) : Ret Tryz.prog 156 [.agg [.int .u64 x0, .int .u64 x1, .int .u64 x2, .int .u64 x3, .int .u64 x4]] [] (eWd (mkW (- val5 x0 x1 x2 x3 x4))) [] := by
  have hm := AddWide_lim (18446744073709551615 - x0) (18446744073709551615 - x1) (18446744073709551615 - x2) (18446744073709551615 - x3) (18446744073709551615 - x4) 1 0 0 0 0 (U_not h0) (U_not h1) (U_not h2) (U_not h3) (U_not h4) (by decide) (by decide) (by decide) (by decide) (by decide)
  refine ret_of_body atNone tok mixed Tryz.func156 (by kernel_rfl) rfl (k := 17) (rs := [.cell 2 69]) (by kernel_rfl) (by kernel_rfl) ?_
  (conv => whnf) <;> repeat' (first | (intro I hw hs; apply hs; conv => whnf) | (apply hs; conv => whnf) | (rw [not64 (by assumption)]; conv => whnf) | ((first | refine wN ?_ | refine wNc ?_ | refine wA ?_ | refine wB ?_ | refine wC ?_ | refine wD ?_ | refine Called.mk _ _ (hm) ?_); conv => whnf) | ((first | apply Pick.mk | apply Cond.mk) <;> intro h <;> conv => whnf))
  refine End.mk (congrArg eWd (mkW_is ?_)) rfl
  unfold val5 B5; omega
theorem turned_ret (w : Wd) : Ret Tryz.prog 156 [eWd w] [] (eWd (wneg w)) [] := by
  have h := turned_lim _ _ _ _ _ (m0_U w) (m1_U w) (m2_U w) (m3_U w) (m4_U w)
  rwa [← wlimbs_v] at h
theorem Narrow_ret (w : Wd) (s : Int) : Ret Tryz.prog 125 [eWd w, .int .i64 s] [] (.tup [eD (narrow w s).1, .int .i64 (narrow w s).2]) [] := by
  have ht := m4_top w
  have e63 : (2 : Int) ^ min (Int.toNat 63) IntKind.u64.bits = 9223372036854775808 := by decide
  refine ret_of_body atNone tok mixed Tryz.func125 (by kernel_rfl) rfl (k := 37) (rs := [.cell 4 26, .tmp 5]) (by kernel_rfl) (by kernel_rfl) ?_
  (conv => whnf) <;> repeat' (first | (rw [e63, fdiv_pos _ (by decide), ht]; conv => whnf) | ((first | refine wN ?_ | refine wNc ?_ | refine wA ?_ | refine wB ?_ | refine wC ?_ | refine wD ?_ | refine Called.mk _ _ (turned_ret w) ?_ | refine vA ?_ | refine vB ?_ | refine vC ?_ | refine vD ?_); conv => whnf) | ((first | apply Pick.dec | apply Pick.beq | apply Cond.dec | apply Cond.beq | apply Cond.nd | apply Pick.nd | apply Pick.mk | apply Cond.mk) <;> intro h <;> conv => whnf))
  · rw [narrow_low (by assumption)]; exact End.mk rfl rfl
  · rw [narrow_far (by assumption)]; exact End.mk rfl rfl
  · rw [narrow_over (by assumption) (by assumption) (absW_t (by assumption)) (by assumption)]; exact End.mk rfl rfl
  · rw [narrow_ok (by assumption) (by assumption) (absW_t (by assumption)) (by assumption), narrow_eD (by assumption)]; exact End.mk rfl rfl
  · rw [narrow_over (by assumption) (by assumption) (absW_f (by assumption)) (by assumption)]; exact End.mk rfl rfl
  · rw [narrow_ok (by assumption) (by assumption) (absW_f (by assumption)) (by assumption), narrow_eD (by assumption)]; exact End.mk rfl rfl
end Go.Proofs.YtlbocjcponegcaaGreat

set_option linter.unusedVariables false
set_option linter.unusedSimpArgs false
set_option maxRecDepth 100000
namespace Go.Proofs.YtlbocjcponegcaaGreat
open Go.AM
def bt (x : Int) (r : Nat) : Int := x / 2 ^ r % 2
theorem bt_01 (x : Int) (r : Nat) : bt x r = 0 ∨ bt x r = 1 := by unfold bt; omega
/-- a limb's sum, up to a bit -/
def LI (x z c0 : Int) (r : Nat) (y c : Int) : Prop := y + 2 ^ r * c = x % 2 ^ r + z % 2 ^ r + c0 ∧ (0 ≤ y ∧ y < 2 ^ r) ∧ (c = 0 ∨ c = 1)
theorem LI.start {x z c0 : Int} (h : c0 = 0 ∨ c0 = 1) : LI x z c0 0 0 c0 := by
  refine ⟨?_, by decide, h⟩
  have : (2 : Int) ^ 0 = 1 := rfl
  rw [this]; omega
theorem LI.done {x z c0 y c : Int} (hx : U x) (hz : U z) (h : LI x z c0 64 y c) : y + 18446744073709551616 * c = x + z + c0 ∧ U y ∧ (c = 0 ∨ c = 1) := by
  obtain ⟨h1, h2, h3⟩ := h
  have : (2 : Int) ^ 64 = 18446744073709551616 := by decide
  rw [this] at h1 h2
  unfold U at *
  refine ⟨by omega, h2, h3⟩
theorem LI.step {x z c0 y c : Int} {r : Nat} (h : LI x z c0 r y c) : LI x z c0 (r + 1) (y + (bt x r + bt z r + c) % 2 * 2 ^ r) ((bt x r + bt z r + c) / 2) := by
  obtain ⟨h1, h2, h3⟩ := h
  have hb := bt_01 x r; have hb2 := bt_01 z r
  have hp : (2 : Int) ^ (r + 1) = 2 * 2 ^ r := by rw [Int.pow_succ, Int.mul_comm]
  have hpos : (0 : Int) < 2 ^ r := Int.pow_pos (by decide)
  have key : ∀ w : Int, w % 2 ^ (r + 1) = w % 2 ^ r + 2 ^ r * bt w r := fun w => by
    unfold bt
    rw [hp]
    generalize (2 : Int) ^ r = P at *
    have e := Int.mul_ediv_add_emod w P
    have m0 := Int.emod_nonneg w (show P ≠ 0 by omega)
    have m1 := Int.emod_lt_of_pos w hpos
    generalize w % P = m at *
    generalize w / P = q at *
    have e2 : w = (m + P * (q % 2)) + (2 * P) * (q / 2) := by
      have e3 : P * q = P * (2 * (q / 2) + q % 2) := congrArg (P * ·) (by omega)
      rw [Int.mul_add, Int.mul_left_comm, ← Int.mul_assoc] at e3
      omega
    rw [e2, Int.add_mul_emod_self_left]
    rcases (by omega : q % 2 = 0 ∨ q % 2 = 1) with h | h <;> rw [h]
    · rw [Int.mul_zero, Int.emod_eq_of_lt (by omega) (by omega)]
    · rw [Int.mul_one, Int.emod_eq_of_lt (by omega) (by omega)]
  unfold LI
  rw [key, key, hp]
  generalize (2 : Int) ^ r = P at *
  generalize bt x r = p at *
  generalize bt z r = q at *
  generalize x % P = X at *
  generalize z % P = Z at *
  rcases hb with rfl | rfl <;> rcases hb2 with rfl | rfl <;> rcases h3 with rfl | rfl <;> refine ⟨by omega, by omega, by omega⟩
theorem or_low {y s : Int} {r : Nat} (hr : r < 64) (hy : 0 ≤ y ∧ y < 2 ^ r) (hs : 0 ≤ s) : IntKind.u64.wrap ((BitVec.ofInt IntKind.u64.bits y ||| BitVec.ofInt IntKind.u64.bits (IntKind.u64.wrap (s.tmod 2 * 2 ^ min (Int.toNat (r : Int)) IntKind.u64.bits))).toNat : Int) = y + s % 2 * 2 ^ r := by
  have e : min (Int.toNat (r : Int)) IntKind.u64.bits = r := by
    have : IntKind.u64.bits = 64 := rfl
    rw [this, Int.toNat_natCast]; omega
  have h : 2 ^ r < 2 ^ 64 := Nat.pow_lt_pow_right (by decide) hr
  have hc : ((2 : Int) ^ r) = ((2 ^ r : Nat) : Int) := (Int.natCast_pow 2 r).symm
  have hp : (0 : Int) < 2 ^ r := Int.pow_pos (by decide)
  have hu : U (s % 2 * 2 ^ r) := by
    unfold U
    rcases (by omega : s % 2 = 0 ∨ s % 2 = 1) with h1 | h1 <;> rw [h1]
    · omega
    · rw [Int.one_mul, hc]; omega
  have hw : IntKind.u64.wrap (s % 2 * 2 ^ r) = s % 2 * 2 ^ r := by rw [w64]; exact Int.emod_eq_of_lt hu.1 hu.2
  rw [e, Int.tmod_eq_emod_of_nonneg hs, hw, BitVec.or_comm, or_apart r hu (Int.mul_emod_left _ _) hy.1 hy.2 (by omega), Int.add_comm]
theorem half {s : Int} (h0 : 0 ≤ s) (h1 : s < 10) : IntKind.u64.wrap (s.tdiv 2) = s / 2 := by
  rw [Int.tdiv_eq_ediv_of_nonneg h0, w64]; omega
end Go.Proofs.YtlbocjcponegcaaGreat

set_option linter.unusedVariables false
set_option linter.unusedSimpArgs false
set_option maxRecDepth 100000
namespace Go.Proofs.YtlbocjcponegcaaGreat
open Go.AM
end Go.Proofs.YtlbocjcponegcaaGreat

set_option linter.unusedVariables false
set_option linter.unusedSimpArgs false
set_option maxRecDepth 100000
namespace Go.Proofs.YtlbocjcponegcaaGreat
open Go.AM
theorem Value1_ret (e : Int) : Ret Tryz.prog 85 [.int .i64 e] [] (eV (errV e)) [] := by
  refine ret_of_body atNone tok mixed Tryz.func85 (by kernel_rfl) rfl (k := 5) (rs := [.cell 2 28]) (by kernel_rfl) (by kernel_rfl) ?_
  (conv => whnf) <;> repeat' (first | ((first | refine wN ?_ | refine wNc ?_ | refine wA ?_ | refine wB ?_ | refine wC ?_ | refine wD ?_); conv => whnf) | ((first | apply Pick.mk | apply Cond.mk) <;> intro h <;> conv => whnf))
  exact End.mk rfl rfl
theorem Value2_ret (d : D) : Ret Tryz.prog 86 [eD d] [] (eV (numV d)) [] := by
  refine ret_of_body atNone tok mixed Tryz.func86 (by kernel_rfl) rfl (k := 5) (rs := [.cell 2 28]) (by kernel_rfl) (by kernel_rfl) ?_
  (conv => whnf) <;> repeat' (first | ((first | refine wN ?_ | refine wNc ?_ | refine wA ?_ | refine wB ?_ | refine wC ?_ | refine wD ?_); conv => whnf) | ((first | apply Pick.mk | apply Cond.mk) <;> intro h <;> conv => whnf))
  exact End.mk rfl rfl
theorem Total_ret (s : Sm) (n : Int) : Ret Tryz.prog 89 [eS s, .int .i64 n] [] (.tup [eD (narrow s.total n).1, .int .i64 (narrow s.total n).2]) [] := by
  refine ret_of_body atNone tok mixed Tryz.func89 (by kernel_rfl) rfl (k := 12) (rs := [.cell 4 26, .tmp 5]) (by kernel_rfl) (by kernel_rfl) ?_
  (conv => whnf) <;> repeat' (first | ((first | refine wN ?_ | refine wNc ?_ | refine wA ?_ | refine wB ?_ | refine wC ?_ | refine wD ?_ | refine Called.mk _ _ (Narrow_ret s.total n) ?_); conv => whnf) | ((first | apply Pick.mk | apply Cond.mk) <;> intro h <;> conv => whnf))
  exact End.mk rfl rfl
theorem intD_made {n : Int} (h : I64' n) : madeZ n 0 = (intD n, 0) := by
  unfold I64' at h
  unfold madeZ made intD
  rw [if_neg (by unfold B4; split <;> omega)]
  congr 2
  rcases (by omega : n < 0 ∨ 0 ≤ n) with hn | hn
  · rw [decT hn, Bool.true_and, decide_eq_true_eq, if_pos hn]
    intro e
    have := congrArg N.v e
    rw [mkN_v ⟨by omega, by unfold B4; omega⟩] at this
    have e0 : N0.v = 0 := rfl
    omega
  · rw [decF (by omega), Bool.false_and]
theorem Value3_ret (n : Int) (h : I64' n) : Ret Tryz.prog 87 [.int .i64 n, .ptr 0 0] [.cells [.fn 86 [] []]] (eV (numV (intD n))) [.cells [.fn 86 [] []]] := by
  have ho := OfInt_ret n 0 h (by decide)
  rw [intD_made h] at ho
  refine ret_of_body atNone tok mixed Tryz.func87 (by kernel_rfl) rfl (k := 14) (rs := [.cell 3 28]) (by kernel_rfl) (by kernel_rfl) ?_
  (conv => whnf) <;> repeat' (first | ((first | refine wN ?_ | refine wNc ?_ | refine wA ?_ | refine wB ?_ | refine wC ?_ | refine wD ?_ | refine Called.mk _ _ (ho) ?_ | refine Called.mk _ _ (Value2_ret (intD n)) ?_); conv => whnf) | ((first | apply Pick.mk | apply Cond.mk) <;> intro h <;> conv => whnf))
  exact EndH.mk [0] rfl rfl rfl
theorem Value_ret (op : Int) (s : Sm) (c : Int) (h0 : I64' s.rows) (h1 : I64' s.filled) : Ret Tryz.prog 42 [.int .i64 op, eS s, .int .i64 c] [] (eV (aggV op s c)) [] := by
  have v0 := Value3_ret s.rows h0
  have v1 := Value3_ret s.filled h1
  refine ret_of_body atNone tok mixed Tryz.func42 (by kernel_rfl) rfl (k := 71) (rs := [.cell 6 28]) (by kernel_rfl) (by kernel_rfl) ?_
  (conv => whnf) <;> repeat' (first | (refine CalledH.mk [2] _ _ rfl (by decide) v0 ?_; conv => whnf) | (refine CalledH.mk [2] _ _ rfl (by decide) v1 ?_; conv => whnf) | ((first | refine wN ?_ | refine wNc ?_ | refine wA ?_ | refine wB ?_ | refine wC ?_ | refine wD ?_ | refine Called.mk _ _ (Total_ret s c) ?_ | refine Called.mk _ _ (Value1_ret s.err) ?_ | refine Called.mk _ _ (Value1_ret 1) ?_ | refine Called.mk _ _ (Value1_ret 2) ?_ | refine Called.mk _ _ (Value1_ret 4) ?_ | refine Called.mk _ _ (Value2_ret s.min) ?_ | refine Called.mk _ _ (Value2_ret s.max) ?_ | refine Called.mk _ _ (Value2_ret (narrow s.total c).1) ?_ | refine vA ?_ | refine vB ?_ | refine vC ?_ | refine vD ?_); conv => whnf) | ((first | apply Pick.dec | apply Pick.beq | apply Cond.dec | apply Cond.beq | apply Cond.nd | apply Pick.nd | apply Pick.mk | apply Cond.mk) <;> intro h <;> conv => whnf))
  all_goals
    refine End.mk ?_ rfl
    unfold aggV
    repeat' split
    all_goals first | rfl | (exfalso; omega) | (exfalso; simp_all)
end Go.Proofs.YtlbocjcponegcaaGreat

