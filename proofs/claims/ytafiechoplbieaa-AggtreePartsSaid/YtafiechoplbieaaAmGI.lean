/- summary.AddWide, turned, Widen, Narrow. -/
import Derived.Test.YtafiechoplbieaaAmGH
import Derived.Test.YtafiechoplbieaaAmGV
set_option linter.unusedVariables false
set_option linter.unusedSimpArgs false
set_option maxRecDepth 100000
namespace Go.Proofs.Ytafiechoplbieaa
open Go.AM
set_option maxHeartbeats 2000000 in
theorem AddWide_ret (a b : Wd) : Ret Try.prog 60 [eWd a, eWd b] [] (eWd (mkW (a.v + b.v))) [] := by
  have ea := wlimbs_v a; have eb := wlimbs_v b
  have a0 := m0_U a; have a1 := m1_U a; have a2 := m2_U a; have a3 := m3_U a; have a4 := m4_U a
  have b0 := m0_U b; have b1 := m1_U b; have b2 := m2_U b; have b3 := m3_U b; have b4 := m4_U b
  refine ret_of_body atNone tok mixed Try.func60 (by kernel_rfl) rfl (k := 39) (rs := [.cell 4 36]) (by kernel_rfl) (by kernel_rfl) ?_
  (conv => whnf) <;> repeat' (first | ((first | refine wN ?_ | refine wNc ?_ | refine wA ?_ | refine wB ?_ | refine wC ?_ | refine wD ?_); conv => whnf) | ((first | apply Pick.mk | apply Cond.mk) <;> intro h <;> conv => whnf))
  intro I hw hs
  have o5 : ∀ c x0 x1 x2 x3 x4 : Int, U x0 → U x1 → U x2 → U x3 → U x4 → (a.v + b.v) % B5 = val5 x0 x1 x2 x3 x4 % B5 → I [.und, .und, .ptr 0 0, .ptr 1 0, .ptr 2 0, .int .u64 c, .und, .und, .und, .int .i64 5, .und, .und, .und, .und, .und, .und, .und, .und, .und, .und, .und, .und, .und, .und, .und, .und, .und, .und, .und, .und, .und, .und, .und, .und, .und, .und, .und, .und, .und] [.cells [.int .u64 x0, .int .u64 x1, .int .u64 x2, .int .u64 x3, .int .u64 x4], .cells (cWd b), .cells (cWd Wd0)] := by
    intro c x0 x1 x2 x3 x4 h0 h1 h2 h3 h4 he
    apply hs
    conv => whnf
    (repeat (first | (refine Cond.tt rfl ?_; conv => whnf) | (refine Cond.ff rfl ?_; conv => whnf) | (refine Pick.tt rfl ?_; conv => whnf) | (refine Pick.ff rfl ?_; conv => whnf) | (refine Need.mk (by decide) ?_; conv => whnf)))
    refine End.mk (eWd_is h0 h1 h2 h3 h4 ?_) rfl
    have := val5_lt h0 h1 h2 h3 h4
    rw [he, Int.emod_eq_of_lt this.1 this.2]
  have o4 : ∀ c x0 x1 x2 x3 x4 : Int, (c = 0 ∨ c = 1) → U x0 → U x1 → U x2 → U x3 → U x4 → (a.v + b.v) % B5 = (val5 x0 x1 x2 x3 x4 + 115792089237316195423570985008687907853269984665640564039457584007913129639936 * (c + (m4 b + 18446744073709551616 * 0))) % B5 → I [.und, .und, .ptr 0 0, .ptr 1 0, .ptr 2 0, .int .u64 c, .und, .und, .und, .int .i64 4, .und, .und, .und, .und, .und, .und, .und, .und, .und, .und, .und, .und, .und, .und, .und, .und, .und, .und, .und, .und, .und, .und, .und, .und, .und, .und, .und, .und, .und] [.cells [.int .u64 x0, .int .u64 x1, .int .u64 x2, .int .u64 x3, .int .u64 x4], .cells (cWd b), .cells (cWd Wd0)] := by
    intro c x0 x1 x2 x3 x4 hc h0 h1 h2 h3 h4 he
    apply hs
    (conv => whnf) <;> repeat' (first | (rw [w64]; conv => whnf) | (rw [show IntKind.i64.wrap (4 + 1) = 5 from by decide]; conv => whnf) | ((first | refine wN ?_ | refine wNc ?_ | refine wA ?_ | refine wB ?_ | refine wC ?_ | refine wD ?_); conv => whnf) | ((first | apply Pick.dec | apply Pick.beq | apply Cond.dec | apply Cond.beq | apply Cond.nd | apply Pick.nd | apply Pick.mk | apply Cond.mk) <;> intro h <;> conv => whnf))
    all_goals
      apply hw [0, 1, 2] [false, false, true, true, true, true, false, false, false, true] _ _ (by decide)
      first
        | (refine o5 1 x0 x1 x2 x3 (((x4 + m4 b) % 18446744073709551616 + c) % 18446744073709551616)  (by assumption) (by assumption) (by assumption) (by assumption) (U_mod _) ?_; rw [he]; unfold U at *; unfold val5 B5; omega)
        | (refine o5 0 x0 x1 x2 x3 (((x4 + m4 b) % 18446744073709551616 + c) % 18446744073709551616)  (by assumption) (by assumption) (by assumption) (by assumption) (U_mod _) ?_; rw [he]; unfold U at *; unfold val5 B5; omega)
  have o3 : ∀ c x0 x1 x2 x3 x4 : Int, (c = 0 ∨ c = 1) → U x0 → U x1 → U x2 → U x3 → U x4 → (a.v + b.v) % B5 = (val5 x0 x1 x2 x3 x4 + 6277101735386680763835789423207666416102355444464034512896 * (c + (m3 b + 18446744073709551616 * (m4 b + 18446744073709551616 * 0)))) % B5 → I [.und, .und, .ptr 0 0, .ptr 1 0, .ptr 2 0, .int .u64 c, .und, .und, .und, .int .i64 3, .und, .und, .und, .und, .und, .und, .und, .und, .und, .und, .und, .und, .und, .und, .und, .und, .und, .und, .und, .und, .und, .und, .und, .und, .und, .und, .und, .und, .und] [.cells [.int .u64 x0, .int .u64 x1, .int .u64 x2, .int .u64 x3, .int .u64 x4], .cells (cWd b), .cells (cWd Wd0)] := by
    intro c x0 x1 x2 x3 x4 hc h0 h1 h2 h3 h4 he
    apply hs
    (conv => whnf) <;> repeat' (first | (rw [w64]; conv => whnf) | (rw [show IntKind.i64.wrap (3 + 1) = 4 from by decide]; conv => whnf) | ((first | refine wN ?_ | refine wNc ?_ | refine wA ?_ | refine wB ?_ | refine wC ?_ | refine wD ?_); conv => whnf) | ((first | apply Pick.dec | apply Pick.beq | apply Cond.dec | apply Cond.beq | apply Cond.nd | apply Pick.nd | apply Pick.mk | apply Cond.mk) <;> intro h <;> conv => whnf))
    all_goals
      apply hw [0, 1, 2] [false, false, true, true, true, true, false, false, false, true] _ _ (by decide)
      first
        | (refine o4 1 x0 x1 x2 (((x3 + m3 b) % 18446744073709551616 + c) % 18446744073709551616) x4 (.inr rfl) (by assumption) (by assumption) (by assumption) (U_mod _) (by assumption) ?_; rw [he]; unfold U at *; unfold val5 B5; omega)
        | (refine o4 0 x0 x1 x2 (((x3 + m3 b) % 18446744073709551616 + c) % 18446744073709551616) x4 (.inl rfl) (by assumption) (by assumption) (by assumption) (U_mod _) (by assumption) ?_; rw [he]; unfold U at *; unfold val5 B5; omega)
  have o2 : ∀ c x0 x1 x2 x3 x4 : Int, (c = 0 ∨ c = 1) → U x0 → U x1 → U x2 → U x3 → U x4 → (a.v + b.v) % B5 = (val5 x0 x1 x2 x3 x4 + 340282366920938463463374607431768211456 * (c + (m2 b + 18446744073709551616 * (m3 b + 18446744073709551616 * (m4 b + 18446744073709551616 * 0))))) % B5 → I [.und, .und, .ptr 0 0, .ptr 1 0, .ptr 2 0, .int .u64 c, .und, .und, .und, .int .i64 2, .und, .und, .und, .und, .und, .und, .und, .und, .und, .und, .und, .und, .und, .und, .und, .und, .und, .und, .und, .und, .und, .und, .und, .und, .und, .und, .und, .und, .und] [.cells [.int .u64 x0, .int .u64 x1, .int .u64 x2, .int .u64 x3, .int .u64 x4], .cells (cWd b), .cells (cWd Wd0)] := by
    intro c x0 x1 x2 x3 x4 hc h0 h1 h2 h3 h4 he
    apply hs
    (conv => whnf) <;> repeat' (first | (rw [w64]; conv => whnf) | (rw [show IntKind.i64.wrap (2 + 1) = 3 from by decide]; conv => whnf) | ((first | refine wN ?_ | refine wNc ?_ | refine wA ?_ | refine wB ?_ | refine wC ?_ | refine wD ?_); conv => whnf) | ((first | apply Pick.dec | apply Pick.beq | apply Cond.dec | apply Cond.beq | apply Cond.nd | apply Pick.nd | apply Pick.mk | apply Cond.mk) <;> intro h <;> conv => whnf))
    all_goals
      apply hw [0, 1, 2] [false, false, true, true, true, true, false, false, false, true] _ _ (by decide)
      first
        | (refine o3 1 x0 x1 (((x2 + m2 b) % 18446744073709551616 + c) % 18446744073709551616) x3 x4 (.inr rfl) (by assumption) (by assumption) (U_mod _) (by assumption) (by assumption) ?_; rw [he]; unfold U at *; unfold val5 B5; omega)
        | (refine o3 0 x0 x1 (((x2 + m2 b) % 18446744073709551616 + c) % 18446744073709551616) x3 x4 (.inl rfl) (by assumption) (by assumption) (U_mod _) (by assumption) (by assumption) ?_; rw [he]; unfold U at *; unfold val5 B5; omega)
  have o1 : ∀ c x0 x1 x2 x3 x4 : Int, (c = 0 ∨ c = 1) → U x0 → U x1 → U x2 → U x3 → U x4 → (a.v + b.v) % B5 = (val5 x0 x1 x2 x3 x4 + 18446744073709551616 * (c + (m1 b + 18446744073709551616 * (m2 b + 18446744073709551616 * (m3 b + 18446744073709551616 * (m4 b + 18446744073709551616 * 0)))))) % B5 → I [.und, .und, .ptr 0 0, .ptr 1 0, .ptr 2 0, .int .u64 c, .und, .und, .und, .int .i64 1, .und, .und, .und, .und, .und, .und, .und, .und, .und, .und, .und, .und, .und, .und, .und, .und, .und, .und, .und, .und, .und, .und, .und, .und, .und, .und, .und, .und, .und] [.cells [.int .u64 x0, .int .u64 x1, .int .u64 x2, .int .u64 x3, .int .u64 x4], .cells (cWd b), .cells (cWd Wd0)] := by
    intro c x0 x1 x2 x3 x4 hc h0 h1 h2 h3 h4 he
    apply hs
    (conv => whnf) <;> repeat' (first | (rw [w64]; conv => whnf) | (rw [show IntKind.i64.wrap (1 + 1) = 2 from by decide]; conv => whnf) | ((first | refine wN ?_ | refine wNc ?_ | refine wA ?_ | refine wB ?_ | refine wC ?_ | refine wD ?_); conv => whnf) | ((first | apply Pick.dec | apply Pick.beq | apply Cond.dec | apply Cond.beq | apply Cond.nd | apply Pick.nd | apply Pick.mk | apply Cond.mk) <;> intro h <;> conv => whnf))
    all_goals
      apply hw [0, 1, 2] [false, false, true, true, true, true, false, false, false, true] _ _ (by decide)
      first
        | (refine o2 1 x0 (((x1 + m1 b) % 18446744073709551616 + c) % 18446744073709551616) x2 x3 x4 (.inr rfl) (by assumption) (U_mod _) (by assumption) (by assumption) (by assumption) ?_; rw [he]; unfold U at *; unfold val5 B5; omega)
        | (refine o2 0 x0 (((x1 + m1 b) % 18446744073709551616 + c) % 18446744073709551616) x2 x3 x4 (.inl rfl) (by assumption) (U_mod _) (by assumption) (by assumption) (by assumption) ?_; rw [he]; unfold U at *; unfold val5 B5; omega)
  have o0 : ∀ c x0 x1 x2 x3 x4 : Int, (c = 0 ∨ c = 1) → U x0 → U x1 → U x2 → U x3 → U x4 → (a.v + b.v) % B5 = (val5 x0 x1 x2 x3 x4 + 1 * (c + (m0 b + 18446744073709551616 * (m1 b + 18446744073709551616 * (m2 b + 18446744073709551616 * (m3 b + 18446744073709551616 * (m4 b + 18446744073709551616 * 0))))))) % B5 → I [.und, .und, .ptr 0 0, .ptr 1 0, .ptr 2 0, .int .u64 c, .und, .und, .und, .int .i64 0, .und, .und, .und, .und, .und, .und, .und, .und, .und, .und, .und, .und, .und, .und, .und, .und, .und, .und, .und, .und, .und, .und, .und, .und, .und, .und, .und, .und, .und] [.cells [.int .u64 x0, .int .u64 x1, .int .u64 x2, .int .u64 x3, .int .u64 x4], .cells (cWd b), .cells (cWd Wd0)] := by
    intro c x0 x1 x2 x3 x4 hc h0 h1 h2 h3 h4 he
    apply hs
    (conv => whnf) <;> repeat' (first | (rw [w64]; conv => whnf) | (rw [show IntKind.i64.wrap (0 + 1) = 1 from by decide]; conv => whnf) | ((first | refine wN ?_ | refine wNc ?_ | refine wA ?_ | refine wB ?_ | refine wC ?_ | refine wD ?_); conv => whnf) | ((first | apply Pick.dec | apply Pick.beq | apply Cond.dec | apply Cond.beq | apply Cond.nd | apply Pick.nd | apply Pick.mk | apply Cond.mk) <;> intro h <;> conv => whnf))
    all_goals
      apply hw [0, 1, 2] [false, false, true, true, true, true, false, false, false, true] _ _ (by decide)
      first
        | (refine o1 1 (((x0 + m0 b) % 18446744073709551616 + c) % 18446744073709551616) x1 x2 x3 x4 (.inr rfl) (U_mod _) (by assumption) (by assumption) (by assumption) (by assumption) ?_; rw [he]; unfold U at *; unfold val5 B5; omega)
        | (refine o1 0 (((x0 + m0 b) % 18446744073709551616 + c) % 18446744073709551616) x1 x2 x3 x4 (.inl rfl) (U_mod _) (by assumption) (by assumption) (by assumption) (by assumption) ?_; rw [he]; unfold U at *; unfold val5 B5; omega)
  apply hw [0, 1, 2] [false, false, true, true, true, true, false, false, false, true] _ _ (by decide)
  refine o0 0 (m0 a) (m1 a) (m2 a) (m3 a) (m4 a) (.inl rfl) a0 a1 a2 a3 a4 ?_
  rw [ea, eb]
  congr 1
  unfold val5
  omega
theorem AddWide_lim (x0 x1 x2 x3 x4 y0 y1 y2 y3 y4 : Int) (h0 : U x0) (h1 : U x1) (h2 : U x2) (h3 : U x3) (h4 : U x4) (g0 : U y0) (g1 : U y1) (g2 : U y2) (g3 : U y3) (g4 : U y4) : Ret Try.prog 60 [.agg [.int .u64 x0, .int .u64 x1, .int .u64 x2, .int .u64 x3, .int .u64 x4], .agg [.int .u64 y0, .int .u64 y1, .int .u64 y2, .int .u64 y3, .int .u64 y4]] [] (eWd (mkW (val5 x0 x1 x2 x3 x4 + val5 y0 y1 y2 y3 y4))) [] := by
  rw [ofW_agg h0 h1 h2 h3 h4, ofW_agg g0 g1 g2 g3 g4]
  have h := AddWide_ret (ofW x0 x1 x2 x3 x4) (ofW y0 y1 y2 y3 y4)
  rwa [show (ofW x0 x1 x2 x3 x4).v = val5 x0 x1 x2 x3 x4 from mkW_v (val5_lt h0 h1 h2 h3 h4), show (ofW y0 y1 y2 y3 y4).v = val5 y0 y1 y2 y3 y4 from mkW_v (val5_lt g0 g1 g2 g3 g4)] at h
theorem U_not {x : Int} (h : U x) : U (18446744073709551615 - x) := by unfold U at *; omega
theorem turned_lim (x0 x1 x2 x3 x4 : Int) (h0 : U x0) (h1 : U x1) (h2 : U x2) (h3 : U x3) (h4 : U x4) : Ret Try.prog 94 [.agg [.int .u64 x0, .int .u64 x1, .int .u64 x2, .int .u64 x3, .int .u64 x4]] [] (eWd (mkW (- val5 x0 x1 x2 x3 x4))) [] := by
  have hm := AddWide_lim (18446744073709551615 - x0) (18446744073709551615 - x1) (18446744073709551615 - x2) (18446744073709551615 - x3) (18446744073709551615 - x4) 1 0 0 0 0 (U_not h0) (U_not h1) (U_not h2) (U_not h3) (U_not h4) (by decide) (by decide) (by decide) (by decide) (by decide)
  refine ret_of_body atNone tok mixed Try.func94 (by kernel_rfl) rfl (k := 17) (rs := [.cell 2 36]) (by kernel_rfl) (by kernel_rfl) ?_
  (conv => whnf) <;> repeat' (first | (intro I hw hs; apply hs; conv => whnf) | (apply hs; conv => whnf) | (rw [not64 (by assumption)]; conv => whnf) | ((first | refine wN ?_ | refine wNc ?_ | refine wA ?_ | refine wB ?_ | refine wC ?_ | refine wD ?_ | refine Called.mk _ _ (hm) ?_); conv => whnf) | ((first | apply Pick.mk | apply Cond.mk) <;> intro h <;> conv => whnf))
  refine End.mk (congrArg eWd (mkW_is ?_)) rfl
  unfold val5 B5; omega
theorem Widen_ret (d : D) : Ret Try.prog 85 [eD d] [] (eWd (widen d)) [] := by
  have a0 := l0_U d.n; have a1 := l1_U d.n; have a2 := l2_U d.n; have a3 := l3_U d.n
  have e := limbs_v d.n
  have hm := turned_lim (l0 d.n) (l1 d.n) (l2 d.n) (l3 d.n) 0 a0 a1 a2 a3 (by decide)
  refine ret_of_body atNone tok mixed Try.func85 (by kernel_rfl) rfl (k := 22) (rs := [.cell 2 36]) (by kernel_rfl) (by kernel_rfl) ?_
  (conv => whnf) <;> repeat' (first | ((first | refine wN ?_ | refine wNc ?_ | refine wA ?_ | refine wB ?_ | refine wC ?_ | refine wD ?_ | refine Called.mk _ _ (hm) ?_ | refine vA ?_ | refine vB ?_ | refine vC ?_ | refine vD ?_); conv => whnf) | ((first | apply Pick.dec | apply Pick.beq | apply Cond.dec | apply Cond.beq | apply Cond.nd | apply Pick.nd | apply Pick.mk | apply Cond.mk) <;> intro h <;> conv => whnf))
  · refine End.mk (congrArg eWd (mkW_is ?_)) rfl
    rw [if_pos (by assumption), e]; unfold val4 val5 B5; omega
  · refine End.mk (eWd_is a0 a1 a2 a3 (by decide) ?_) rfl
    rw [if_neg (by simp_all), e]
    unfold U at *; unfold val4 val5 B5; omega
end Go.Proofs.Ytafiechoplbieaa

set_option linter.unusedVariables false
set_option linter.unusedSimpArgs false
set_option maxRecDepth 100000
namespace Go.Proofs.Ytafiechoplbieaa
open Go.AM
def bt (x : Int) (r : Nat) : Int := x / 2 ^ r % 2
theorem bt_01 (x : Int) (r : Nat) : bt x r = 0 ∨ bt x r = 1 := by unfold bt; omega
theorem limb_bt {x : Int} (r : Nat) (hr : r < 64) (hx : U x) : IntKind.u64.wrap ((BitVec.ofInt IntKind.u64.bits (x.fdiv (2 ^ min (Int.toNat (r : Int)) IntKind.u64.bits)) &&& BitVec.ofInt IntKind.u64.bits 1).toNat : Int) = bt x r := by
  have hc : ∀ k : Nat, ((2 : Int) ^ k) = ((2 ^ k : Nat) : Int) := fun k => (Int.natCast_pow 2 k).symm
  obtain ⟨n, rfl⟩ := Int.eq_ofNat_of_zero_le hx.1
  unfold U at hx
  rw [shr_r _ _ hr, hc r, ← Int.natCast_ediv]
  have hlt : n / 2 ^ r < 2 ^ 64 := Nat.lt_of_le_of_lt (Nat.div_le_self _ _) (by omega)
  rw [and1 ⟨Int.natCast_nonneg _, Int.ofNat_lt.2 hlt⟩]
  unfold bt
  rw [hc r, ← Int.natCast_ediv]
theorem wbit0 (a : Wd) (r : Nat) (hr : r < 64) : Ret Try.prog 79 [eWd a, .int .i64 ((64 * 0 + r : Nat) : Int)] [] (.int .u64 (bt (m0 a) r)) [] := by
  have hq := tq 0 r hr
  have hm := tr 0 r hr
  refine ret_of_body atNone tok mixed Try.func79 (by kernel_rfl) rfl (k := 13) (rs := [.tmp 4]) (by kernel_rfl) (by kernel_rfl) ?_
  (conv => whnf) <;> repeat' (first | (rw [hq]; conv => whnf) | (rw [hm]; conv => whnf) | ((first | refine wN ?_ | refine wNc ?_ | refine wA ?_ | refine wB ?_ | refine wC ?_ | refine wD ?_); conv => whnf) | ((first | apply Pick.mk | apply Cond.mk) <;> intro h <;> conv => whnf))
  exact End.mk (int_eq (limb_bt r hr (m0_U a))) rfl
theorem wbit1 (a : Wd) (r : Nat) (hr : r < 64) : Ret Try.prog 79 [eWd a, .int .i64 ((64 * 1 + r : Nat) : Int)] [] (.int .u64 (bt (m1 a) r)) [] := by
  have hq := tq 1 r hr
  have hm := tr 1 r hr
  refine ret_of_body atNone tok mixed Try.func79 (by kernel_rfl) rfl (k := 13) (rs := [.tmp 4]) (by kernel_rfl) (by kernel_rfl) ?_
  (conv => whnf) <;> repeat' (first | (rw [hq]; conv => whnf) | (rw [hm]; conv => whnf) | ((first | refine wN ?_ | refine wNc ?_ | refine wA ?_ | refine wB ?_ | refine wC ?_ | refine wD ?_); conv => whnf) | ((first | apply Pick.mk | apply Cond.mk) <;> intro h <;> conv => whnf))
  exact End.mk (int_eq (limb_bt r hr (m1_U a))) rfl
theorem wbit2 (a : Wd) (r : Nat) (hr : r < 64) : Ret Try.prog 79 [eWd a, .int .i64 ((64 * 2 + r : Nat) : Int)] [] (.int .u64 (bt (m2 a) r)) [] := by
  have hq := tq 2 r hr
  have hm := tr 2 r hr
  refine ret_of_body atNone tok mixed Try.func79 (by kernel_rfl) rfl (k := 13) (rs := [.tmp 4]) (by kernel_rfl) (by kernel_rfl) ?_
  (conv => whnf) <;> repeat' (first | (rw [hq]; conv => whnf) | (rw [hm]; conv => whnf) | ((first | refine wN ?_ | refine wNc ?_ | refine wA ?_ | refine wB ?_ | refine wC ?_ | refine wD ?_); conv => whnf) | ((first | apply Pick.mk | apply Cond.mk) <;> intro h <;> conv => whnf))
  exact End.mk (int_eq (limb_bt r hr (m2_U a))) rfl
theorem wbit3 (a : Wd) (r : Nat) (hr : r < 64) : Ret Try.prog 79 [eWd a, .int .i64 ((64 * 3 + r : Nat) : Int)] [] (.int .u64 (bt (m3 a) r)) [] := by
  have hq := tq 3 r hr
  have hm := tr 3 r hr
  refine ret_of_body atNone tok mixed Try.func79 (by kernel_rfl) rfl (k := 13) (rs := [.tmp 4]) (by kernel_rfl) (by kernel_rfl) ?_
  (conv => whnf) <;> repeat' (first | (rw [hq]; conv => whnf) | (rw [hm]; conv => whnf) | ((first | refine wN ?_ | refine wNc ?_ | refine wA ?_ | refine wB ?_ | refine wC ?_ | refine wD ?_); conv => whnf) | ((first | apply Pick.mk | apply Cond.mk) <;> intro h <;> conv => whnf))
  exact End.mk (int_eq (limb_bt r hr (m3_U a))) rfl
theorem wbit4 (a : Wd) (r : Nat) (hr : r < 64) : Ret Try.prog 79 [eWd a, .int .i64 ((64 * 4 + r : Nat) : Int)] [] (.int .u64 (bt (m4 a) r)) [] := by
  have hq := tq 4 r hr
  have hm := tr 4 r hr
  refine ret_of_body atNone tok mixed Try.func79 (by kernel_rfl) rfl (k := 13) (rs := [.tmp 4]) (by kernel_rfl) (by kernel_rfl) ?_
  (conv => whnf) <;> repeat' (first | (rw [hq]; conv => whnf) | (rw [hm]; conv => whnf) | ((first | refine wN ?_ | refine wNc ?_ | refine wA ?_ | refine wB ?_ | refine wC ?_ | refine wD ?_); conv => whnf) | ((first | apply Pick.mk | apply Cond.mk) <;> intro h <;> conv => whnf))
  exact End.mk (int_eq (limb_bt r hr (m4_U a))) rfl
/-- a limb's sum, up to a bit -/
def LI (x z c0 : Int) (r : Nat) (y c : Int) : Prop := y + 2 ^ r * c = x % 2 ^ r + z % 2 ^ r + c0 ∧ (0 ≤ y ∧ y < 2 ^ r) ∧ (c = 0 ∨ c = 1)
theorem LI.start {x z c0 : Int} (h : c0 = 0 ∨ c0 = 1) : LI x z c0 0 0 c0 := by
  refine ⟨?_, by decide, h⟩
  have : (2 : Int) ^ 0 = 1 := rfl
  rw [this]; omega
theorem LI.done {x z c0 y c : Int} (hx : U x) (hz : U z) (h : LI x z c0 64 y c) : y + 18446744073709551616 * c = x + z + c0 ∧ U y ∧ (c = 0 ∨ c = 1) := by
  obtain ⟨h1, h2, h3⟩ := h
  have : (2 : Int) ^ 64 = 18446744073709551616 := by decide
  rw [this] at h1 h2
  unfold U at *
  refine ⟨by omega, h2, h3⟩
theorem LI.step {x z c0 y c : Int} {r : Nat} (h : LI x z c0 r y c) : LI x z c0 (r + 1) (y + (bt x r + bt z r + c) % 2 * 2 ^ r) ((bt x r + bt z r + c) / 2) := by
  obtain ⟨h1, h2, h3⟩ := h
  have hb := bt_01 x r; have hb2 := bt_01 z r
  have hp : (2 : Int) ^ (r + 1) = 2 * 2 ^ r := by rw [Int.pow_succ, Int.mul_comm]
  have hpos : (0 : Int) < 2 ^ r := Int.pow_pos (by decide)
  have key : ∀ w : Int, w % 2 ^ (r + 1) = w % 2 ^ r + 2 ^ r * bt w r := fun w => by
    unfold bt
    rw [hp]
    generalize (2 : Int) ^ r = P at *
    have e := Int.mul_ediv_add_emod w P
    have m0 := Int.emod_nonneg w (show P ≠ 0 by omega)
    have m1 := Int.emod_lt_of_pos w hpos
    generalize w % P = m at *
    generalize w / P = q at *
    have e2 : w = (m + P * (q % 2)) + (2 * P) * (q / 2) := by
      have e3 : P * q = P * (2 * (q / 2) + q % 2) := congrArg (P * ·) (by omega)
      rw [Int.mul_add, Int.mul_left_comm, ← Int.mul_assoc] at e3
      omega
    rw [e2, Int.add_mul_emod_self_left]
    rcases (by omega : q % 2 = 0 ∨ q % 2 = 1) with h | h <;> rw [h]
    · rw [Int.mul_zero, Int.emod_eq_of_lt (by omega) (by omega)]
    · rw [Int.mul_one, Int.emod_eq_of_lt (by omega) (by omega)]
  unfold LI
  rw [key, key, hp]
  generalize (2 : Int) ^ r = P at *
  generalize bt x r = p at *
  generalize bt z r = q at *
  generalize x % P = X at *
  generalize z % P = Z at *
  rcases hb with rfl | rfl <;> rcases hb2 with rfl | rfl <;> rcases h3 with rfl | rfl <;> refine ⟨by omega, by omega, by omega⟩
theorem add3 {p q c : Int} (h1 : p = 0 ∨ p = 1) (h2 : q = 0 ∨ q = 1) (h3 : c = 0 ∨ c = 1) : IntKind.u64.wrap (IntKind.u64.wrap (p + q) + c) = p + q + c := by
  rw [w64, w64]; omega
theorem or_low {y s : Int} {r : Nat} (hr : r < 64) (hy : 0 ≤ y ∧ y < 2 ^ r) (hs : 0 ≤ s) : IntKind.u64.wrap ((BitVec.ofInt IntKind.u64.bits y ||| BitVec.ofInt IntKind.u64.bits (IntKind.u64.wrap (s.tmod 2 * 2 ^ min (Int.toNat (r : Int)) IntKind.u64.bits))).toNat : Int) = y + s % 2 * 2 ^ r := by
  have e : min (Int.toNat (r : Int)) IntKind.u64.bits = r := by
    have : IntKind.u64.bits = 64 := rfl
    rw [this, Int.toNat_natCast]; omega
  have h : 2 ^ r < 2 ^ 64 := Nat.pow_lt_pow_right (by decide) hr
  have hc : ((2 : Int) ^ r) = ((2 ^ r : Nat) : Int) := (Int.natCast_pow 2 r).symm
  have hp : (0 : Int) < 2 ^ r := Int.pow_pos (by decide)
  have hu : U (s % 2 * 2 ^ r) := by
    unfold U
    rcases (by omega : s % 2 = 0 ∨ s % 2 = 1) with h1 | h1 <;> rw [h1]
    · omega
    · rw [Int.one_mul, hc]; omega
  have hw : IntKind.u64.wrap (s % 2 * 2 ^ r) = s % 2 * 2 ^ r := by rw [w64]; exact Int.emod_eq_of_lt hu.1 hu.2
  rw [e, Int.tmod_eq_emod_of_nonneg hs, hw, BitVec.or_comm, or_apart r hu (Int.mul_emod_left _ _) hy.1 hy.2 (by omega), Int.add_comm]
theorem half {s : Int} (h0 : 0 ≤ s) (h1 : s < 10) : IntKind.u64.wrap (s.tdiv 2) = s / 2 := by
  rw [Int.tdiv_eq_ediv_of_nonneg h0, w64]; omega
theorem rAddWide_ret (a b : Wd) : Ret Try.prog 62 [eWd a, eWd b] [] (eWd (mkW (a.v + b.v))) [] := by
  have ea := wlimbs_v a; have eb := wlimbs_v b
  have a0 := m0_U a; have a1 := m1_U a; have a2 := m2_U a; have a3 := m3_U a; have a4 := m4_U a
  have b0 := m0_U b; have b1 := m1_U b; have b2 := m2_U b; have b3 := m3_U b; have b4 := m4_U b
  refine ret_of_body atNone tok mixed Try.func62 (by kernel_rfl) rfl (k := 36) (rs := [.cell 4 36]) (by kernel_rfl) (by kernel_rfl) ?_
  (conv => whnf) <;> repeat' (first | ((first | refine wN ?_ | refine wNc ?_ | refine wA ?_ | refine wB ?_ | refine wC ?_ | refine wD ?_); conv => whnf) | ((first | apply Pick.mk | apply Cond.mk) <;> intro h <;> conv => whnf))
  intro I hw hs
  have o5 : ∀ c x0 x1 x2 x3 x4 : Int, U x0 → U x1 → U x2 → U x3 → U x4 → (a.v + b.v) % B5 = val5 x0 x1 x2 x3 x4 % B5 → I [.und, .und, .ptr 0 0, .ptr 1 0, .ptr 2 0, .ptr 3 0, .int .u64 c, .int .i64 320, .und, .und, .und, .und, .und, .und, .und, .und, .und, .und, .und, .und, .und, .und, .und, .und, .und, .und, .und, .und, .und, .und, .und, .und, .und, .und, .und, .und] [.cells (cWd a), .cells (cWd b), .cells (cWd Wd0), .cells [.int .u64 x0, .int .u64 x1, .int .u64 x2, .int .u64 x3, .int .u64 x4]] := by
    intro c x0 x1 x2 x3 x4 h0 h1 h2 h3 h4 he
    apply hs
    conv => whnf
    (repeat (first | (refine Cond.tt rfl ?_; conv => whnf) | (refine Cond.ff rfl ?_; conv => whnf) | (refine Pick.tt rfl ?_; conv => whnf) | (refine Pick.ff rfl ?_; conv => whnf) | (refine Need.mk (by decide) ?_; conv => whnf)))
    refine End.mk (eWd_is h0 h1 h2 h3 h4 ?_) rfl
    have := val5_lt h0 h1 h2 h3 h4
    rw [he, Int.emod_eq_of_lt this.1 this.2]
  have o4 : ∀ c0 x0 x1 x2 x3 : Int, (c0 = 0 ∨ c0 = 1) → U x0 → U x1 → U x2 → U x3 → (a.v + b.v) % B5 = (val5 x0 x1 x2 x3 0 + 115792089237316195423570985008687907853269984665640564039457584007913129639936 * (c0 + (m4 a + m4 b))) % B5 → ∀ (n r : Nat), n + r = 64 → ∀ y c : Int, LI (m4 a) (m4 b) c0 r y c → I [.und, .und, .ptr 0 0, .ptr 1 0, .ptr 2 0, .ptr 3 0, .int .u64 c, .int .i64 ((64 * 4 + r : Nat) : Int), .und, .und, .und, .und, .und, .und, .und, .und, .und, .und, .und, .und, .und, .und, .und, .und, .und, .und, .und, .und, .und, .und, .und, .und, .und, .und, .und, .und] [.cells (cWd a), .cells (cWd b), .cells (cWd Wd0), .cells [.int .u64 x0, .int .u64 x1, .int .u64 x2, .int .u64 x3, .int .u64 y]] := by
    intro c0 x0 x1 x2 x3 hc0 h0 h1 h2 h3 he n
    induction n with
    | zero =>
      intro r hr y c hi
      obtain rfl : r = 64 := by omega
      obtain ⟨e1, e2, e3⟩ := hi.done a4 b4
      refine o5 c x0 x1 x2 x3 y h0 h1 h2 h3 e2 ?_
      rw [he]; unfold U at *; unfold val5 B5; omega
    | succ n ih =>
      intro r hr y c hi
      have hr' : r < 64 := by omega
      have hq := tq 4 r hr'
      have hm := tr 4 r hr'
      have p1 := bt_01 (m4 a) r; have p2 := bt_01 (m4 b) r
      have p3 := hi.2.2
      have hS := add3 p1 p2 p3
      have hO := or_low (s := bt (m4 a) r + bt (m4 b) r + c) hr' hi.2.1 (by omega)
      have hH := half (s := bt (m4 a) r + bt (m4 b) r + c) (by omega) (by omega)
      have hI : IntKind.i64.wrap (((64 * 4 + r : Nat) : Int) + 1) = ((64 * 4 + (r + 1) : Nat) : Int) := by
        rw [wi64_id (by omega) (by omega)]; omega
      apply hs
      conv => whnf
      refine Cond.tt (decT (by omega)) ?_
      (conv => whnf) <;> repeat' (first | (rw [hS]; conv => whnf) | (rw [hq]; conv => whnf) | (rw [hm]; conv => whnf) | ((first | refine wN ?_ | refine wNc ?_ | refine wA ?_ | refine wB ?_ | refine wC ?_ | refine wD ?_ | refine Called.mk _ _ (wbit4 a r hr') ?_ | refine Called.mk _ _ (wbit4 b r hr') ?_); conv => whnf) | ((first | apply Pick.mk | apply Cond.mk) <;> intro h <;> conv => whnf))
      rw [hO, hH, hI]
      apply hw [0, 1, 2, 3] [false, false, true, true, true, true, true, true] _ _ (by decide)
      exact ih (r + 1) (by omega) _ _ hi.step
  have o3 : ∀ c0 x0 x1 x2 : Int, (c0 = 0 ∨ c0 = 1) → U x0 → U x1 → U x2 → (a.v + b.v) % B5 = (val5 x0 x1 x2 0 0 + 6277101735386680763835789423207666416102355444464034512896 * (c0 + (m3 a + m3 b + 18446744073709551616 * (m4 a + m4 b)))) % B5 → ∀ (n r : Nat), n + r = 64 → ∀ y c : Int, LI (m3 a) (m3 b) c0 r y c → I [.und, .und, .ptr 0 0, .ptr 1 0, .ptr 2 0, .ptr 3 0, .int .u64 c, .int .i64 ((64 * 3 + r : Nat) : Int), .und, .und, .und, .und, .und, .und, .und, .und, .und, .und, .und, .und, .und, .und, .und, .und, .und, .und, .und, .und, .und, .und, .und, .und, .und, .und, .und, .und] [.cells (cWd a), .cells (cWd b), .cells (cWd Wd0), .cells [.int .u64 x0, .int .u64 x1, .int .u64 x2, .int .u64 y, .int .u64 0]] := by
    intro c0 x0 x1 x2 hc0 h0 h1 h2 he n
    induction n with
    | zero =>
      intro r hr y c hi
      obtain rfl : r = 64 := by omega
      obtain ⟨e1, e2, e3⟩ := hi.done a3 b3
      refine o4 c x0 x1 x2 y e3 h0 h1 h2 e2 ?_ 64 0 rfl 0 c (LI.start e3)
      rw [he]; unfold U at *; unfold val5 B5; omega
    | succ n ih =>
      intro r hr y c hi
      have hr' : r < 64 := by omega
      have hq := tq 3 r hr'
      have hm := tr 3 r hr'
      have p1 := bt_01 (m3 a) r; have p2 := bt_01 (m3 b) r
      have p3 := hi.2.2
      have hS := add3 p1 p2 p3
      have hO := or_low (s := bt (m3 a) r + bt (m3 b) r + c) hr' hi.2.1 (by omega)
      have hH := half (s := bt (m3 a) r + bt (m3 b) r + c) (by omega) (by omega)
      have hI : IntKind.i64.wrap (((64 * 3 + r : Nat) : Int) + 1) = ((64 * 3 + (r + 1) : Nat) : Int) := by
        rw [wi64_id (by omega) (by omega)]; omega
      apply hs
      conv => whnf
      refine Cond.tt (decT (by omega)) ?_
      (conv => whnf) <;> repeat' (first | (rw [hS]; conv => whnf) | (rw [hq]; conv => whnf) | (rw [hm]; conv => whnf) | ((first | refine wN ?_ | refine wNc ?_ | refine wA ?_ | refine wB ?_ | refine wC ?_ | refine wD ?_ | refine Called.mk _ _ (wbit3 a r hr') ?_ | refine Called.mk _ _ (wbit3 b r hr') ?_); conv => whnf) | ((first | apply Pick.mk | apply Cond.mk) <;> intro h <;> conv => whnf))
      rw [hO, hH, hI]
      apply hw [0, 1, 2, 3] [false, false, true, true, true, true, true, true] _ _ (by decide)
      exact ih (r + 1) (by omega) _ _ hi.step
  have o2 : ∀ c0 x0 x1 : Int, (c0 = 0 ∨ c0 = 1) → U x0 → U x1 → (a.v + b.v) % B5 = (val5 x0 x1 0 0 0 + 340282366920938463463374607431768211456 * (c0 + (m2 a + m2 b + 18446744073709551616 * (m3 a + m3 b + 18446744073709551616 * (m4 a + m4 b))))) % B5 → ∀ (n r : Nat), n + r = 64 → ∀ y c : Int, LI (m2 a) (m2 b) c0 r y c → I [.und, .und, .ptr 0 0, .ptr 1 0, .ptr 2 0, .ptr 3 0, .int .u64 c, .int .i64 ((64 * 2 + r : Nat) : Int), .und, .und, .und, .und, .und, .und, .und, .und, .und, .und, .und, .und, .und, .und, .und, .und, .und, .und, .und, .und, .und, .und, .und, .und, .und, .und, .und, .und] [.cells (cWd a), .cells (cWd b), .cells (cWd Wd0), .cells [.int .u64 x0, .int .u64 x1, .int .u64 y, .int .u64 0, .int .u64 0]] := by
    intro c0 x0 x1 hc0 h0 h1 he n
    induction n with
    | zero =>
      intro r hr y c hi
      obtain rfl : r = 64 := by omega
      obtain ⟨e1, e2, e3⟩ := hi.done a2 b2
      refine o3 c x0 x1 y e3 h0 h1 e2 ?_ 64 0 rfl 0 c (LI.start e3)
      rw [he]; unfold U at *; unfold val5 B5; omega
    | succ n ih =>
      intro r hr y c hi
      have hr' : r < 64 := by omega
      have hq := tq 2 r hr'
      have hm := tr 2 r hr'
      have p1 := bt_01 (m2 a) r; have p2 := bt_01 (m2 b) r
      have p3 := hi.2.2
      have hS := add3 p1 p2 p3
      have hO := or_low (s := bt (m2 a) r + bt (m2 b) r + c) hr' hi.2.1 (by omega)
      have hH := half (s := bt (m2 a) r + bt (m2 b) r + c) (by omega) (by omega)
      have hI : IntKind.i64.wrap (((64 * 2 + r : Nat) : Int) + 1) = ((64 * 2 + (r + 1) : Nat) : Int) := by
        rw [wi64_id (by omega) (by omega)]; omega
      apply hs
      conv => whnf
      refine Cond.tt (decT (by omega)) ?_
      (conv => whnf) <;> repeat' (first | (rw [hS]; conv => whnf) | (rw [hq]; conv => whnf) | (rw [hm]; conv => whnf) | ((first | refine wN ?_ | refine wNc ?_ | refine wA ?_ | refine wB ?_ | refine wC ?_ | refine wD ?_ | refine Called.mk _ _ (wbit2 a r hr') ?_ | refine Called.mk _ _ (wbit2 b r hr') ?_); conv => whnf) | ((first | apply Pick.mk | apply Cond.mk) <;> intro h <;> conv => whnf))
      rw [hO, hH, hI]
      apply hw [0, 1, 2, 3] [false, false, true, true, true, true, true, true] _ _ (by decide)
      exact ih (r + 1) (by omega) _ _ hi.step
  have o1 : ∀ c0 x0 : Int, (c0 = 0 ∨ c0 = 1) → U x0 → (a.v + b.v) % B5 = (val5 x0 0 0 0 0 + 18446744073709551616 * (c0 + (m1 a + m1 b + 18446744073709551616 * (m2 a + m2 b + 18446744073709551616 * (m3 a + m3 b + 18446744073709551616 * (m4 a + m4 b)))))) % B5 → ∀ (n r : Nat), n + r = 64 → ∀ y c : Int, LI (m1 a) (m1 b) c0 r y c → I [.und, .und, .ptr 0 0, .ptr 1 0, .ptr 2 0, .ptr 3 0, .int .u64 c, .int .i64 ((64 * 1 + r : Nat) : Int), .und, .und, .und, .und, .und, .und, .und, .und, .und, .und, .und, .und, .und, .und, .und, .und, .und, .und, .und, .und, .und, .und, .und, .und, .und, .und, .und, .und] [.cells (cWd a), .cells (cWd b), .cells (cWd Wd0), .cells [.int .u64 x0, .int .u64 y, .int .u64 0, .int .u64 0, .int .u64 0]] := by
    intro c0 x0 hc0 h0 he n
    induction n with
    | zero =>
      intro r hr y c hi
      obtain rfl : r = 64 := by omega
      obtain ⟨e1, e2, e3⟩ := hi.done a1 b1
      refine o2 c x0 y e3 h0 e2 ?_ 64 0 rfl 0 c (LI.start e3)
      rw [he]; unfold U at *; unfold val5 B5; omega
    | succ n ih =>
      intro r hr y c hi
      have hr' : r < 64 := by omega
      have hq := tq 1 r hr'
      have hm := tr 1 r hr'
      have p1 := bt_01 (m1 a) r; have p2 := bt_01 (m1 b) r
      have p3 := hi.2.2
      have hS := add3 p1 p2 p3
      have hO := or_low (s := bt (m1 a) r + bt (m1 b) r + c) hr' hi.2.1 (by omega)
      have hH := half (s := bt (m1 a) r + bt (m1 b) r + c) (by omega) (by omega)
      have hI : IntKind.i64.wrap (((64 * 1 + r : Nat) : Int) + 1) = ((64 * 1 + (r + 1) : Nat) : Int) := by
        rw [wi64_id (by omega) (by omega)]; omega
      apply hs
      conv => whnf
      refine Cond.tt (decT (by omega)) ?_
      (conv => whnf) <;> repeat' (first | (rw [hS]; conv => whnf) | (rw [hq]; conv => whnf) | (rw [hm]; conv => whnf) | ((first | refine wN ?_ | refine wNc ?_ | refine wA ?_ | refine wB ?_ | refine wC ?_ | refine wD ?_ | refine Called.mk _ _ (wbit1 a r hr') ?_ | refine Called.mk _ _ (wbit1 b r hr') ?_); conv => whnf) | ((first | apply Pick.mk | apply Cond.mk) <;> intro h <;> conv => whnf))
      rw [hO, hH, hI]
      apply hw [0, 1, 2, 3] [false, false, true, true, true, true, true, true] _ _ (by decide)
      exact ih (r + 1) (by omega) _ _ hi.step
  have o0 : ∀ c0 : Int, (c0 = 0 ∨ c0 = 1) → (a.v + b.v) % B5 = (val5 0 0 0 0 0 + 1 * (c0 + (m0 a + m0 b + 18446744073709551616 * (m1 a + m1 b + 18446744073709551616 * (m2 a + m2 b + 18446744073709551616 * (m3 a + m3 b + 18446744073709551616 * (m4 a + m4 b))))))) % B5 → ∀ (n r : Nat), n + r = 64 → ∀ y c : Int, LI (m0 a) (m0 b) c0 r y c → I [.und, .und, .ptr 0 0, .ptr 1 0, .ptr 2 0, .ptr 3 0, .int .u64 c, .int .i64 ((64 * 0 + r : Nat) : Int), .und, .und, .und, .und, .und, .und, .und, .und, .und, .und, .und, .und, .und, .und, .und, .und, .und, .und, .und, .und, .und, .und, .und, .und, .und, .und, .und, .und] [.cells (cWd a), .cells (cWd b), .cells (cWd Wd0), .cells [.int .u64 y, .int .u64 0, .int .u64 0, .int .u64 0, .int .u64 0]] := by
    intro c0 hc0  he n
    induction n with
    | zero =>
      intro r hr y c hi
      obtain rfl : r = 64 := by omega
      obtain ⟨e1, e2, e3⟩ := hi.done a0 b0
      refine o1 c  y e3  e2 ?_ 64 0 rfl 0 c (LI.start e3)
      rw [he]; unfold U at *; unfold val5 B5; omega
    | succ n ih =>
      intro r hr y c hi
      have hr' : r < 64 := by omega
      have hq := tq 0 r hr'
      have hm := tr 0 r hr'
      have p1 := bt_01 (m0 a) r; have p2 := bt_01 (m0 b) r
      have p3 := hi.2.2
      have hS := add3 p1 p2 p3
      have hO := or_low (s := bt (m0 a) r + bt (m0 b) r + c) hr' hi.2.1 (by omega)
      have hH := half (s := bt (m0 a) r + bt (m0 b) r + c) (by omega) (by omega)
      have hI : IntKind.i64.wrap (((64 * 0 + r : Nat) : Int) + 1) = ((64 * 0 + (r + 1) : Nat) : Int) := by
        rw [wi64_id (by omega) (by omega)]; omega
      apply hs
      conv => whnf
      refine Cond.tt (decT (by omega)) ?_
      (conv => whnf) <;> repeat' (first | (rw [hS]; conv => whnf) | (rw [hq]; conv => whnf) | (rw [hm]; conv => whnf) | ((first | refine wN ?_ | refine wNc ?_ | refine wA ?_ | refine wB ?_ | refine wC ?_ | refine wD ?_ | refine Called.mk _ _ (wbit0 a r hr') ?_ | refine Called.mk _ _ (wbit0 b r hr') ?_); conv => whnf) | ((first | apply Pick.mk | apply Cond.mk) <;> intro h <;> conv => whnf))
      rw [hO, hH, hI]
      apply hw [0, 1, 2, 3] [false, false, true, true, true, true, true, true] _ _ (by decide)
      exact ih (r + 1) (by omega) _ _ hi.step
  apply hw [0, 1, 2, 3] [false, false, true, true, true, true, true, true] _ _ (by decide)
  refine o0 0 (.inl rfl) ?_ 64 0 rfl 0 0 (LI.start (.inl rfl))
  rw [ea, eb]
  congr 1
  unfold val5
  omega
end Go.Proofs.Ytafiechoplbieaa

set_option linter.unusedVariables false
set_option linter.unusedSimpArgs false
set_option maxRecDepth 100000
namespace Go.Proofs.Ytafiechoplbieaa
open Go.AM
theorem Of1_ret (n : Int) : Ret Try.prog 83 [.int .i64 n] [] (eS (badS n)) [] := by
  refine ret_of_body atNone tok mixed Try.func83 (by kernel_rfl) rfl (k := 5) (rs := [.cell 2 42]) (by kernel_rfl) (by kernel_rfl) ?_
  (conv => whnf) <;> repeat' (first | ((first | refine wN ?_ | refine wNc ?_ | refine wA ?_ | refine wB ?_ | refine wC ?_ | refine wD ?_); conv => whnf) | ((first | apply Pick.mk | apply Cond.mk) <;> intro h <;> conv => whnf))
  exact End.mk rfl rfl
theorem Of_ret (v : Vl) (s : Int) : Ret Try.prog 66 [eV v, .int .i64 s] [] (eS (ofVl v s)) [] := by
  refine ret_of_body atNone tok mixed Try.func66 (by kernel_rfl) rfl (k := 47) (rs := [.cell 4 42]) (by kernel_rfl) (by kernel_rfl) ?_
  (conv => whnf) <;> repeat' (first | ((first | refine wN ?_ | refine wNc ?_ | refine wA ?_ | refine wB ?_ | refine wC ?_ | refine wD ?_ | refine Called.mk _ _ (Check_ret v.num) ?_ | refine Called.mk _ _ (Widen_ret v.num) ?_ | refine Called.mk _ _ (Of1_ret v.err) ?_ | refine Called.mk _ _ (Of1_ret 2) ?_ | refine vA ?_ | refine vB ?_ | refine vC ?_ | refine vD ?_); conv => whnf) | ((first | apply Pick.dec | apply Pick.beq | apply Cond.dec | apply Cond.beq | apply Cond.nd | apply Pick.nd | apply Pick.mk | apply Cond.mk) <;> intro h <;> conv => whnf))
  all_goals
    refine End.mk ?_ rfl
    first
      | (rw [ofVl0 (by assumption)]; rfl)
      | (rw [ofVl2 (.inl (by assumption))]; rfl)
      | (rw [ofVl2 (.inr (by assumption))]; rfl)
      | (rw [ofVl1 (by assumption) (by assumption) (by assumption)]; rfl)
      | (rw [ofVl1a (by assumption) (by assumption)]; rfl)
      | (rw [ofVl1b (by assumption) (by assumption)]; rfl)
      | (rw [ofVl4 (by assumption) (by assumption)]; rfl)
      | (rw [ofVl4a (by assumption) (by assumption)]; rfl)
      | (rw [ofVlx (by assumption) (by assumption) (by assumption) (by assumption) (by assumption)]; rfl)
end Go.Proofs.Ytafiechoplbieaa

set_option linter.unusedVariables false
set_option linter.unusedSimpArgs false
set_option maxRecDepth 100000
namespace Go.Proofs.Ytafiechoplbieaa
open Go.AM
end Go.Proofs.Ytafiechoplbieaa

