/- exciseref05: two, Join. -/
import Derived.Test.YtafiechoplbieaaAmGK
import Derived.Test.YtafiechoplbieaaAmGQ
set_option linter.unusedVariables false
set_option linter.unusedSimpArgs false
set_option maxRecDepth 100000
namespace Go.Proofs.Ytafiechoplbieaa
open Go.AM
set_option maxHeartbeats 8000000 in
theorem rtwo_ret (a x : Sm) (hz : a.some = false → a.min = D0 ∧ a.max = D0) : Ret Try.prog 40 [eS a, eS x] [] (eS (two a x)) [] := by
  refine ret_of_body atNone tok mixed Try.func40 (by kernel_rfl) rfl (k := 94) (rs := [.cell 4 42]) (by kernel_rfl) (by kernel_rfl) ?_
  (conv => whnf) <;> repeat' (first | ((first | refine wN ?_ | refine wNc ?_ | refine wA ?_ | refine wB ?_ | refine wC ?_ | refine wD ?_ | refine Called.mk _ _ (rAddWide_ret a.total x.total) ?_ | refine Called.mk _ _ (rCmpD_ret x.min a.min) ?_ | refine Called.mk _ _ (rCmpD_ret x.max a.max) ?_); conv => whnf) | ((first | apply Pick.mk | apply Cond.mk) <;> intro h <;> conv => whnf))
  all_goals first
    | (exfalso; simp_all; done)
    | (exfalso; simp_all; omega)
    | skip
  all_goals
    first
      | refine End.mk (congrArg eS (?_ : (⟨_, _, _, _, _, _, _, _, _⟩ : Sm) = two a x)) rfl
      | refine End.mk (congrArg eS (?_ : (⟨_, _, _, _, _, _, _, D0, D0⟩ : Sm) = two a x)) rfl
      | refine End.mk (congrArg eS (?_ : (⟨_, _, _, _, _, _, _, _, D0⟩ : Sm) = two a x)) rfl
      | refine End.mk (congrArg eS (?_ : (⟨_, _, _, _, _, _, _, D0, _⟩ : Sm) = two a x)) rfl
    unfold two
    refine sm_eq rfl rfl rfl rfl ?_ rfl ?_ ?_ ?_
    · unfold errJ; first | (rw [if_pos (by simp_all)]; done) | (rw [if_neg (by simp_all)]; done)
    · simp_all
    · unfold minJ; simp_all <;> (intro hh; exfalso; omega)
    · unfold maxJ; simp_all <;> (intro hh; exfalso; omega)
set_option maxHeartbeats 4000000 in
theorem rJoin_ret (n : Nat) (g : Nat → List Val) (l : List Sm) (hE : ExtL cS n g l) {c : Int} (hG : ∀ s ∈ l, SG c s) (hl : n ≤ 4611686018427387904) : Ret Try.prog 13 [.ext 23 n g] [] (eS (joinS l)) [] := by
  obtain ⟨rfl, hE⟩ := hE
  refine ret_of_body atNone tok mixed Try.func13 (by kernel_rfl) rfl (k := 18) (rs := [.cell 2 42]) (by kernel_rfl) (by kernel_rfl) ?_
  (conv => whnf) <;> repeat' (first | ((first | refine wN ?_ | refine wNc ?_ | refine wA ?_ | refine wB ?_ | refine wC ?_ | refine wD ?_); conv => whnf) | ((first | apply Pick.mk | apply Cond.mk) <;> intro h <;> conv => whnf))
  intro I hw hs
  have key : ∀ (n k : Nat) (a : Sm), n + k = l.length → (l.drop k).foldl two a = joinS l → SG c a → I [.ext 23 l.length g, .und, .ptr 0 0, .ptr 1 0, .int .i64 (k : Int), .und, .und, .und, .und, .und, .und, .und, .und, .und, .und, .und, .und, .und] [.cells (cS Sm0), .cells (cS a)] := by
    intro n
    induction n with
    | zero =>
      intro k a hk he ha
      apply hs
      conv => whnf
      refine Cond.ff (decF (by omega)) ?_
      (conv => whnf) <;> repeat' (first | ((first | refine wN ?_ | refine wNc ?_ | refine wA ?_ | refine wB ?_ | refine wC ?_ | refine wD ?_); conv => whnf) | ((first | apply Pick.mk | apply Cond.mk) <;> intro h <;> conv => whnf))
      rw [List.drop_of_length_le (by omega)] at he
      have he : a = joinS l := he
      rw [← he]
      exact End.mk rfl rfl
    | succ n ih =>
      intro k a hk he ha
      have hlt : k < l.length := by omega
      have hg : g (Int.toNat (k : Int)) = cS l[k] := by rw [Int.toNat_natCast]; exact hE k hlt
      rw [List.drop_eq_getElem_cons hlt, List.foldl_cons] at he
      have hGk : SG c l[k] := hG _ (List.getElem_mem hlt)
      have ihk : ∀ b, b = two a l[k] → I [.ext 23 l.length g, .und, .ptr 0 0, .ptr 1 0, .int .i64 ((k + 1 : Nat) : Int), .und, .und, .und, .und, .und, .und, .und, .und, .und, .und, .und, .und, .und] [.cells (cS Sm0), .cells (cS b)] := fun b hb => ih (k + 1) b (by omega) (by rw [hb]; exact he) (by rw [hb]; exact two_G ha hGk)
      clear he ih
      clear hE hGk hG
      generalize l[k] = x at *
      have hI : IntKind.i64.wrap ((k : Int) + 1) = ((k + 1 : Nat) : Int) := by rw [wi64_id (by omega) (by omega)]; omega
      apply hs
      conv => whnf
      refine Cond.tt (decT (by omega)) ?_
      (conv => whnf) <;> repeat' (first | (rw [hg]; conv => whnf) | ((first | refine wN ?_ | refine wNc ?_ | refine wA ?_ | refine wB ?_ | refine wC ?_ | refine wD ?_ | refine Called.mk _ _ (rtwo_ret a x ha.none) ?_); conv => whnf) | ((first | apply Pick.mk | apply Cond.mk) <;> intro h <;> conv => whnf))
      all_goals
        rw [hI]
        apply hw [0, 1] [true, false, true, true, true] _ _ (by decide)
        exact ihk _ rfl
  apply hw [0, 1] [true, false, true, true, true] _ _ (by decide)
  exact key l.length 0 Sm0 (by omega) rfl (SG0 c)
end Go.Proofs.Ytafiechoplbieaa

