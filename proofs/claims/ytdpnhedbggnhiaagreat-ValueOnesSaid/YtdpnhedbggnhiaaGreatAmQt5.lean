/- The law exciselaw13.ValueOnes as a contract. -/
import Derived.Test.YtdpnhedbggnhiaaGreatAmQt4
import Derived.Test.YtdpnhedbggnhiaaGreatAmGY
import Derived.Test.YtdpnhedbggnhiaaGreatAmV4
set_option linter.unusedVariables false
set_option linter.unusedSimpArgs false
set_option maxRecDepth 100000
namespace Go.Proofs.YtdpnhedbggnhiaaGreat
open Go.AM
theorem str_self (s : ByteArray) : (s.toList == s.toList) = true := by simp
set_option maxHeartbeats 8000000 in
theorem valueOnes_ret (v : Vl) (s p : Int) : Ret Tryz.prog 3 [eV v, .int .i64 s, .int .i64 p] [] (.bool true) [] := by
  have c1 := vCheck_ret v; have c2 := rvCheck_ret v
  have b1 := vBad_ret s; have b2 := rvBad_ret s
  have n1 := vNeg_ret v; have n2 := rvNeg_ret v
  have o1 := vNot_ret v; have o2 := rvNot_ret v
  have l1 := vBlank_ret v; have l2 := rvBlank_ret v
  have r1 := vRound_ret v s p; have r2 := rvRound_ret v s p
  have t1 := vText_ret v; have t2 := rvText_ret v
  generalize checkV v = x0 at *
  generalize badV s = x1 at *
  generalize negV v = x2 at *
  generalize notV v = x3 at *
  generalize blankV v = x4 at *
  generalize roundV v s p = x5 at *
  generalize valTxt v = x6 at *
  have s1 : x1 = x1 := rfl
  have s2 : x2 = x2 := rfl
  have s3 : x3 = x3 := rfl
  have s4 : x4 = x4 := rfl
  have s5 : x5 = x5 := rfl
  have s6 := str_self x6
  refine ret_of_body atCalls tok mixed Tryz.func3 (by kernel_rfl) rfl (k := 61) (rs := [.tmp 6]) (by kernel_rfl) (by kernel_rfl) ?_
  (conv => whnf) <;> repeat' (first | (rw [eqV]; conv => whnf) | (rw [s6]; conv => whnf) | ((first | refine wN ?_ | refine wA ?_ | refine wB ?_ | refine wC ?_ | refine wD ?_ | refine Called.mk _ _ (live13) ?_ | refine Called.mk _ _ (c1) ?_ | refine Called.mk _ _ (c2) ?_ | refine Called.mk _ _ (b1) ?_ | refine Called.mk _ _ (b2) ?_ | refine Called.mk _ _ (n1) ?_ | refine Called.mk _ _ (n2) ?_ | refine Called.mk _ _ (o1) ?_ | refine Called.mk _ _ (o2) ?_ | refine Called.mk _ _ (l1) ?_ | refine Called.mk _ _ (l2) ?_ | refine Called.mk _ _ (r1) ?_ | refine Called.mk _ _ (r2) ?_ | refine Called.mk _ _ (t1) ?_ | refine Called.mk _ _ (t2) ?_ | refine vA ?_ | refine vB ?_ | refine vC ?_ | refine vD ?_ | refine uA ?_ | refine uB ?_ | refine uC ?_ | refine uD ?_); conv => whnf) | ((first | apply Pick.dec | apply Pick.beq | apply Cond.dec | apply Cond.beq | apply Cond.nd | apply Pick.nd | apply Pick.mk | apply Cond.mk) <;> intro h <;> conv => whnf))
  exact End.mk (bool_eq (by simp)) rfl
end Go.Proofs.YtdpnhedbggnhiaaGreat

