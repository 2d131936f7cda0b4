/- summary.Join. -/
import Derived.Test.YtafiechoplbieaaAmGI
import Derived.Test.YtafiechoplbieaaAmGV
set_option linter.unusedVariables false
set_option linter.unusedSimpArgs false
set_option maxRecDepth 100000
namespace Go.Proofs.Ytafiechoplbieaa
open Go.AM
set_option maxHeartbeats 4000000 in
theorem Join_ret (n : Nat) (g : Nat → List Val) (l : List Sm) (hE : ExtL cS n g l) (hl : n ≤ 4611686018427387904) : Ret Try.prog 38 [.ext 23 n g] [] (eS (joinS l)) [] := by
  obtain ⟨rfl, hE⟩ := hE
  refine ret_of_body atNone tok mixed Try.func38 (by kernel_rfl) rfl (k := 94) (rs := [.cell 2 42]) (by kernel_rfl) (by kernel_rfl) ?_
  (conv => whnf) <;> repeat' (first | ((first | refine wN ?_ | refine wNc ?_ | refine wA ?_ | refine wB ?_ | refine wC ?_ | refine wD ?_); conv => whnf) | ((first | apply Pick.mk | apply Cond.mk) <;> intro h <;> conv => whnf))
  intro I hw hs
  have key : ∀ (n k : Nat) (a : Sm), n + k = l.length → (l.drop k).foldl two a = joinS l → I [.und, .und, .ptr 0 0, .ptr 1 0, .und, .und, .ext 23 l.length g, .int .i64 (l.length : Int), .int .i64 (k : Int), .und, .und, .und, .und, .und, .und, .und, .und, .und, .und, .und, .und, .und, .und, .und, .und, .und, .und, .und, .und, .und, .und, .und, .und, .und, .und, .und, .und, .und, .und, .und, .und, .und, .und, .und, .und, .und, .und, .und, .und, .und, .und, .und, .und, .und, .und, .und, .und, .und, .und, .und, .und, .und, .und, .und, .und, .und, .und, .und, .und, .und, .und, .und, .und, .und, .und, .und, .und, .und, .und, .und, .und, .und, .und, .und, .und, .und, .und, .und, .und, .und, .und, .und, .und, .und] [.cells (cS Sm0), .cells (cS a)] := by
    intro n
    induction n with
    | zero =>
      intro k a hk he
      apply hs
      conv => whnf
      refine Cond.ff (decF (by omega)) ?_
      (conv => whnf) <;> repeat' (first | ((first | refine wN ?_ | refine wNc ?_ | refine wA ?_ | refine wB ?_ | refine wC ?_ | refine wD ?_); conv => whnf) | ((first | apply Pick.mk | apply Cond.mk) <;> intro h <;> conv => whnf))
      rw [List.drop_of_length_le (by omega)] at he
      have he : a = joinS l := he
      rw [← he]
      exact End.mk rfl rfl
    | succ n ih =>
      intro k a hk he
      have hlt : k < l.length := by omega
      have hg : g (Int.toNat (k : Int)) = cS l[k] := by rw [Int.toNat_natCast]; exact hE k hlt
      rw [List.drop_eq_getElem_cons hlt, List.foldl_cons] at he
      have ihk : ∀ b, b = two a l[k] → I [.und, .und, .ptr 0 0, .ptr 1 0, .und, .und, .ext 23 l.length g, .int .i64 (l.length : Int), .int .i64 ((k + 1 : Nat) : Int), .und, .und, .und, .und, .und, .und, .und, .und, .und, .und, .und, .und, .und, .und, .und, .und, .und, .und, .und, .und, .und, .und, .und, .und, .und, .und, .und, .und, .und, .und, .und, .und, .und, .und, .und, .und, .und, .und, .und, .und, .und, .und, .und, .und, .und, .und, .und, .und, .und, .und, .und, .und, .und, .und, .und, .und, .und, .und, .und, .und, .und, .und, .und, .und, .und, .und, .und, .und, .und, .und, .und, .und, .und, .und, .und, .und, .und, .und, .und, .und, .und, .und, .und, .und, .und] [.cells (cS Sm0), .cells (cS b)] := fun b hb => ih (k + 1) b (by omega) (by rw [hb]; exact he)
      clear he ih
      clear hE
      generalize l[k] = x at *
      have hI : IntKind.i64.wrap ((k : Int) + 1) = ((k + 1 : Nat) : Int) := by rw [wi64_id (by omega) (by omega)]; omega
      apply hs
      conv => whnf
      refine Cond.tt (decT (by omega)) ?_
      (conv => whnf) <;> repeat' (first | (rw [hg]; conv => whnf) | ((first | refine wN ?_ | refine wNc ?_ | refine wA ?_ | refine wB ?_ | refine wC ?_ | refine wD ?_ | refine Called.mk _ _ (AddWide_ret a.total x.total) ?_ | refine Called.mk _ _ (DCmp_ret x.min a.min) ?_ | refine Called.mk _ _ (DCmp_ret x.max a.max) ?_); conv => whnf) | ((first | apply Pick.mk | apply Cond.mk) <;> intro h <;> conv => whnf))
      all_goals
        rw [hI]
        apply hw [0, 1] [false, false, true, true, false, false, true, true, true] _ _ (by decide)
        refine ihk ⟨_, _, _, _, _, _, _, _, _⟩ ?_
        clear hw hs ihk hI hg hk hlt hl
        unfold two
        refine sm_eq rfl rfl rfl rfl ?_ rfl ?_ ?_ ?_
        · unfold errJ; first | (rw [if_pos (by simp_all)]; done) | (rw [if_neg (by simp_all)]; done)
        · simp_all
        · unfold minJ; simp_all <;> (intro hh; exfalso; omega)
        · unfold maxJ; simp_all <;> (intro hh; exfalso; omega)
  apply hw [0, 1] [false, false, true, true, false, false, true, true, true] _ _ (by decide)
  exact key l.length 0 Sm0 (by omega) rfl
end Go.Proofs.Ytafiechoplbieaa

