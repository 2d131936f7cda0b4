/- summary.Join. -/
import Derived.Test.YtenlkhlkohnmkaaAmGH
import Derived.Test.YtenlkhlkohnmkaaAmGV
import Derived.Test.YtenlkhlkohnmkaaAmGJ
set_option linter.unusedVariables false
set_option linter.unusedSimpArgs false
set_option maxRecDepth 100000
namespace Go.Proofs.Ytenlkhlkohnmkaa
open Go.AM
set_option maxHeartbeats 4000000 in
theorem Join_ret (n : Nat) (g : Nat → List Val) (l : List Sm) (hE : ExtL cS n g l) (hl : n ≤ 4611686018427387904) : Ret Try.prog 50 [.ext 23 n g] [] (eS (joinS l)) [] := by
  obtain ⟨rfl, hE⟩ := hE
  refine ret_of_body atNone tok mixed Try.func50 (by kernel_rfl) rfl (k := 94) (rs := [.cell 2 51]) (by kernel_rfl) (by kernel_rfl) ?_
  (conv => whnf) <;> repeat' (first | (refine Need.mk (by first | decide | omega | (simp; done) | (simp; omega)) ?_; conv => whnf) | (refine Cond.tt rfl ?_; conv => whnf) | (refine Cond.ff rfl ?_; conv => whnf) | (refine Pick.tt rfl ?_; conv => whnf) | (refine Pick.ff rfl ?_; conv => whnf) | (refine Pick.mk (fun h => ?_) (fun h => ?_) <;> conv => whnf) | (refine Cond.mk (fun h => ?_) (fun h => ?_) <;> conv => whnf))
  intro I hw hs
  have key : ∀ (n k : Nat) (a : Sm), n + k = l.length → (l.drop k).foldl two a = joinS l → I [.und, .und, .ptr 0 0, .ptr 1 0, .und, .und, .ext 23 l.length g, .int .i64 (l.length : Int), .int .i64 (k : Int), .und, .und, .und, .und, .und, .und, .und, .und, .und, .und, .und, .und, .und, .und, .und, .und, .und, .und, .und, .und, .und, .und, .und, .und, .und, .und, .und, .und, .und, .und, .und, .und, .und, .und, .und, .und, .und, .und, .und, .und, .und, .und, .und, .und, .und, .und, .und, .und, .und, .und, .und, .und, .und, .und, .und, .und, .und, .und, .und, .und, .und, .und, .und, .und, .und, .und, .und, .und, .und, .und, .und, .und, .und, .und, .und, .und, .und, .und, .und, .und, .und, .und, .und, .und, .und] [.cells (cS Sm0), .cells (cS a)] := by
    intro n
    induction n with
    | zero =>
      intro k a hk he
      apply hs
      conv => whnf
      refine Cond.ff (decF (by omega)) ?_
      (conv => whnf) <;> repeat' (first | (refine Need.mk (by first | decide | omega | (simp; done) | (simp; omega)) ?_; conv => whnf) | (refine Cond.tt rfl ?_; conv => whnf) | (refine Cond.ff rfl ?_; conv => whnf) | (refine Pick.tt rfl ?_; conv => whnf) | (refine Pick.ff rfl ?_; conv => whnf) | (refine Pick.mk (fun h => ?_) (fun h => ?_) <;> conv => whnf) | (refine Cond.mk (fun h => ?_) (fun h => ?_) <;> conv => whnf))
      rw [List.drop_of_length_le (by omega)] at he
      have he : a = joinS l := he
      rw [← he]
      exact End.mk rfl rfl
    | succ n ih =>
      intro k a hk he
      have hlt : k < l.length := by omega
      have hg : g (Int.toNat (k : Int)) = cS l[k] := by rw [Int.toNat_natCast]; exact hE k hlt
      rw [List.drop_eq_getElem_cons hlt, List.foldl_cons] at he
      have ihk : ∀ b, b = two a l[k] → I [.und, .und, .ptr 0 0, .ptr 1 0, .und, .und, .ext 23 l.length g, .int .i64 (l.length : Int), .int .i64 ((k + 1 : Nat) : Int), .und, .und, .und, .und, .und, .und, .und, .und, .und, .und, .und, .und, .und, .und, .und, .und, .und, .und, .und, .und, .und, .und, .und, .und, .und, .und, .und, .und, .und, .und, .und, .und, .und, .und, .und, .und, .und, .und, .und, .und, .und, .und, .und, .und, .und, .und, .und, .und, .und, .und, .und, .und, .und, .und, .und, .und, .und, .und, .und, .und, .und, .und, .und, .und, .und, .und, .und, .und, .und, .und, .und, .und, .und, .und, .und, .und, .und, .und, .und, .und, .und, .und, .und, .und, .und] [.cells (cS Sm0), .cells (cS b)] := fun b hb => ih (k + 1) b (by omega) (by rw [hb]; exact he)
      clear he ih
      clear hE
      generalize l[k] = x at *
      have hI : IntKind.i64.wrap ((k : Int) + 1) = ((k + 1 : Nat) : Int) := by rw [wi64_id (by omega) (by omega)]; omega
      apply hs
      conv => whnf
      refine Cond.tt (decT (by omega)) ?_
      (conv => whnf) <;> repeat' (first | (rw [hg]; conv => whnf) | (refine Need.mk (by first | decide | omega | (simp; done) | (simp; omega)) ?_; conv => whnf) | (refine Cond.tt rfl ?_; conv => whnf) | (refine Cond.ff rfl ?_; conv => whnf) | (refine Pick.tt rfl ?_; conv => whnf) | (refine Pick.ff rfl ?_; conv => whnf) | (refine Called.mk _ _ (AddWide_ret a.total x.total) ?_; conv => whnf) | (refine Called.mk _ _ (DCmp_ret x.min a.min) ?_; conv => whnf) | (refine Called.mk _ _ (DCmp_ret x.max a.max) ?_; conv => whnf) | (refine Pick.mk (fun h => ?_) (fun h => ?_) <;> conv => whnf) | (refine Cond.mk (fun h => ?_) (fun h => ?_) <;> conv => whnf))
      all_goals
        rw [hI]
        apply hw [0, 1] [false, false, true, true, false, false, true, true, true] _ _ (by decide)
        refine ihk ⟨_, _, _, _, _, _, _, _, _⟩ ?_
        clear hw hs ihk hI hg hk hlt hl
        unfold two
        refine sm_eq rfl rfl rfl rfl ?_ rfl ?_ ?_ ?_
        · unfold errJ; first | (rw [if_pos (by simp_all)]; done) | (rw [if_neg (by simp_all)]; done)
        · simp_all
        · unfold minJ; simp_all <;> (intro hh; exfalso; omega)
        · unfold maxJ; simp_all <;> (intro hh; exfalso; omega)
  apply hw [0, 1] [false, false, true, true, false, false, true, true, true] _ _ (by decide)
  exact key l.length 0 Sm0 (by omega) rfl
theorem Join_nil : Ret Try.prog 50 [.nils] [] (eS Sm0) [] := by
  refine ret_of_body atNone tok mixed Try.func50 (by kernel_rfl) rfl (k := 94) (rs := [.cell 2 51]) (by kernel_rfl) (by kernel_rfl) ?_
  (conv => whnf) <;> repeat' (first | (refine Need.mk (by first | decide | omega | (simp; done) | (simp; omega)) ?_; conv => whnf) | (refine Cond.tt rfl ?_; conv => whnf) | (refine Cond.ff rfl ?_; conv => whnf) | (refine Pick.tt rfl ?_; conv => whnf) | (refine Pick.ff rfl ?_; conv => whnf) | (refine Pick.mk (fun h => ?_) (fun h => ?_) <;> conv => whnf) | (refine Cond.mk (fun h => ?_) (fun h => ?_) <;> conv => whnf))
  intro I hw hs
  have key : I [.und, .und, .ptr 0 0, .ptr 1 0, .und, .und, .nils, .int .i64 0, .int .i64 0, .und, .und, .und, .und, .und, .und, .und, .und, .und, .und, .und, .und, .und, .und, .und, .und, .und, .und, .und, .und, .und, .und, .und, .und, .und, .und, .und, .und, .und, .und, .und, .und, .und, .und, .und, .und, .und, .und, .und, .und, .und, .und, .und, .und, .und, .und, .und, .und, .und, .und, .und, .und, .und, .und, .und, .und, .und, .und, .und, .und, .und, .und, .und, .und, .und, .und, .und, .und, .und, .und, .und, .und, .und, .und, .und, .und, .und, .und, .und, .und, .und, .und, .und, .und, .und] [.cells (cS Sm0), .cells (cS Sm0)] := by
    apply hs
    conv => whnf
    (repeat (first | (refine Cond.tt rfl ?_; conv => whnf) | (refine Cond.ff rfl ?_; conv => whnf) | (refine Pick.tt rfl ?_; conv => whnf) | (refine Pick.ff rfl ?_; conv => whnf) | (refine Need.mk (by decide) ?_; conv => whnf)))
    exact End.mk rfl rfl
  apply hw [0, 1] [false, false, true, true, false, false, true, true, true] _ _ (by decide)
  exact key
end Go.Proofs.Ytenlkhlkohnmkaa
set_option linter.unusedVariables false
set_option linter.unusedSimpArgs false
set_option maxRecDepth 100000
namespace Go.Proofs.Ytenlkhlkohnmkaa
open Go.AM
theorem sums_nil (g : Nat → List Val) (c : Int) : Ret Try.prog 48 [.ext 10 0 g, .int .i64 c] [] .nils [] := by
  refine ret_of_body atNone tok mixed Try.func48 (by kernel_rfl) rfl (k := 22) (rs := [.tmp 4]) (by kernel_rfl) (by kernel_rfl) ?_
  (conv => whnf) <;> repeat' (first | (refine Need.mk (by first | decide | omega | (simp; done) | (simp; omega)) ?_; conv => whnf) | (refine Cond.tt rfl ?_; conv => whnf) | (refine Cond.ff rfl ?_; conv => whnf) | (refine Pick.tt rfl ?_; conv => whnf) | (refine Pick.ff rfl ?_; conv => whnf) | (refine Pick.mk (fun h => ?_) (fun h => ?_) <;> conv => whnf) | (refine Cond.mk (fun h => ?_) (fun h => ?_) <;> conv => whnf))
  intro I hw hs
  have key : I [.und, .int .i64 c, .und, .und, .und, .nils, .und, .und, .ext 10 0 g, .int .i64 0, .int .i64 0, .und, .und, .und, .und, .und, .und, .und, .und, .und, .und, .und] [] := by
    apply hs
    conv => whnf
    (repeat (first | (refine Cond.tt rfl ?_; conv => whnf) | (refine Cond.ff rfl ?_; conv => whnf) | (refine Pick.tt rfl ?_; conv => whnf) | (refine Pick.ff rfl ?_; conv => whnf) | (refine Need.mk (by decide) ?_; conv => whnf)))
    exact End.mk rfl rfl
  apply hw [] [false, true, false, false, false, true, false, false, true, true, true] _ _ (by decide)
  exact key
def oneG (s : Sm) : Nat → List Val := fun i => (pieces 23 1 (cS s)).getD i []
def sumsG (l : List Sm) : Nat → Nat → List Val
  | 0 => fun _ => []
  | 1 => oneG (l.getD 0 Sm0)
  | k + 2 => fun i => if i < k + 1 then sumsG l (k + 1) i else oneG (l.getD (k + 1) Sm0) (i - (k + 1))
theorem oneG_0 (s : Sm) : oneG s 0 = cS s := rfl
theorem sumsG_at (l : List Sm) : ∀ (k i : Nat) (h : i < l.length), i < k → sumsG l k i = cS l[i]
  | 0, _, _, h => by omega
  | 1, i, h, h1 => by
    obtain rfl : i = 0 := by omega
    show oneG (l.getD 0 Sm0) 0 = _
    rw [oneG_0]; congr 1; simp [List.getD, List.getElem?_eq_getElem h]
  | k + 2, i, h, h1 => by
    show (if i < k + 1 then sumsG l (k + 1) i else oneG (l.getD (k + 1) Sm0) (i - (k + 1))) = _
    split
    · exact sumsG_at l (k + 1) i h (by assumption)
    · obtain rfl : i = k + 1 := by omega
      rw [Nat.sub_self, oneG_0]; congr 1; simp [List.getD, List.getElem?_eq_getElem h]
theorem sums_ret (n : Nat) (g : Nat → List Val) (l : List Vl) (c : Int) (hE : ExtL cV n g l) (hl : n ≤ 100000000000) (h0 : 0 < n) : Ret Try.prog 48 [.ext 10 n g, .int .i64 c] [] (.row 0 n) [.row 51 23 n (sumsG (l.map fun v => ofVl v c) n) 0] := by
  obtain ⟨rfl, hE⟩ := hE
  have hat : ∀ k (h : k < l.length), (l.map fun v => ofVl v c).getD k Sm0 = ofVl l[k] c := fun k h => by simp [List.getD, List.getElem?_eq_getElem h]
  generalize hL : (l.map fun v => ofVl v c) = L at *
  refine ret_of_body atNone tok mixed Try.func48 (by kernel_rfl) rfl (k := 22) (rs := [.tmp 4]) (by kernel_rfl) (by kernel_rfl) ?_
  (conv => whnf) <;> repeat' (first | (refine Need.mk (by first | decide | omega | (simp; done) | (simp; omega)) ?_; conv => whnf) | (refine Cond.tt rfl ?_; conv => whnf) | (refine Cond.ff rfl ?_; conv => whnf) | (refine Pick.tt rfl ?_; conv => whnf) | (refine Pick.ff rfl ?_; conv => whnf) | (refine Pick.mk (fun h => ?_) (fun h => ?_) <;> conv => whnf) | (refine Cond.mk (fun h => ?_) (fun h => ?_) <;> conv => whnf))
  intro I hw hs
  have key : ∀ (j k : Nat), j + (k + 1) = l.length → I [.und, .int .i64 c, .und, .und, .und, .row 0 (k + 1), .und, .und, .ext 10 l.length g, .int .i64 (l.length : Int), .int .i64 ((k + 1 : Nat) : Int), .und, .und, .und, .und, .und, .und, .und, .und, .und, .und, .und] [.row 51 23 (k + 1) (sumsG L (k + 1)) 0] := by
    intro j
    induction j with
    | zero =>
      intro k hk
      apply hs
      conv => whnf
      refine Cond.ff (decF (by omega)) ?_
      (conv => whnf) <;> repeat' (first | (refine Need.mk (by first | decide | omega | (simp; done) | (simp; omega)) ?_; conv => whnf) | (refine Cond.tt rfl ?_; conv => whnf) | (refine Cond.ff rfl ?_; conv => whnf) | (refine Pick.tt rfl ?_; conv => whnf) | (refine Pick.ff rfl ?_; conv => whnf) | (refine Pick.mk (fun h => ?_) (fun h => ?_) <;> conv => whnf) | (refine Cond.mk (fun h => ?_) (fun h => ?_) <;> conv => whnf))
      have : k + 1 = l.length := by omega
      rw [this]
      exact EndH.mk [0] rfl rfl rfl
    | succ j ih =>
      intro k hk
      have hlt : k + 1 < l.length := by omega
      have hg : g (Int.toNat ((k + 1 : Nat) : Int)) = cV l[k + 1] := by rw [Int.toNat_natCast]; exact hE (k + 1) hlt
      have hI : IntKind.i64.wrap (((k + 1 : Nat) : Int) + 1) = ((k + 1 + 1 : Nat) : Int) := by rw [wi64_id (by omega) (by omega)]; omega
      apply hs
      conv => whnf
      refine Cond.tt (decT (by omega)) ?_
      (conv => whnf) <;> repeat' (first | (rw [hg]; conv => whnf) | (refine Need.mk (by first | decide | omega | (simp; done) | (simp; omega)) ?_; conv => whnf) | (refine Cond.tt rfl ?_; conv => whnf) | (refine Cond.ff rfl ?_; conv => whnf) | (refine Pick.tt rfl ?_; conv => whnf) | (refine Pick.ff rfl ?_; conv => whnf) | (refine Called.mk _ _ (Of_ret l[k + 1] c) ?_; conv => whnf) | (refine Pick.mk (fun h => ?_) (fun h => ?_) <;> conv => whnf) | (refine Cond.mk (fun h => ?_) (fun h => ?_) <;> conv => whnf))
      rw [hI]
      apply hw [3] [false, true, false, false, false, true, false, false, true, true, true] _ _ (by decide)
      have ihk := ih (k + 1) (by omega)
      have hS : sumsG L (k + 1 + 1) = fun i => if i < k + 1 then sumsG L (k + 1) i else oneG (ofVl l[k + 1] c) (i - (k + 1)) := by
        funext i
        show (if i < k + 1 then sumsG L (k + 1) i else oneG (L.getD (k + 1) Sm0) (i - (k + 1))) = _
        rw [hat]
      rw [hS] at ihk
      exact ihk
  have start : I [.und, .int .i64 c, .und, .und, .und, .nils, .und, .und, .ext 10 l.length g, .int .i64 (l.length : Int), .int .i64 0, .und, .und, .und, .und, .und, .und, .und, .und, .und, .und, .und] [] := by
    have hg : g (Int.toNat 0) = cV l[0] := hE 0 h0
    have k1 := key (l.length - 1) 0 (by omega)
    have hS : sumsG L (0 + 1) = oneG (ofVl l[0] c) := by
      show oneG (L.getD 0 Sm0) = _
      rw [hat]
    rw [hS] at k1
    apply hs
    conv => whnf
    refine Cond.tt (decT (by omega)) ?_
    (conv => whnf) <;> repeat' (first | (rw [hg]; conv => whnf) | (refine Need.mk (by first | decide | omega | (simp; done) | (simp; omega)) ?_; conv => whnf) | (refine Cond.tt rfl ?_; conv => whnf) | (refine Cond.ff rfl ?_; conv => whnf) | (refine Pick.tt rfl ?_; conv => whnf) | (refine Pick.ff rfl ?_; conv => whnf) | (refine Called.mk _ _ (Of_ret l[0] c) ?_; conv => whnf) | (refine Pick.mk (fun h => ?_) (fun h => ?_) <;> conv => whnf) | (refine Cond.mk (fun h => ?_) (fun h => ?_) <;> conv => whnf))
    apply hw [2] [false, true, false, false, false, true, false, false, true, true, true] _ _ (by decide)
    exact k1
  apply hw [] [false, true, false, false, false, true, false, false, true, true, true] _ _ (by decide)
  exact start
end Go.Proofs.Ytenlkhlkohnmkaa
set_option linter.unusedVariables false
set_option linter.unusedSimpArgs false
set_option maxRecDepth 100000
namespace Go.Proofs.Ytenlkhlkohnmkaa
open Go.AM
theorem tree_nil (cuts : Val) : Ret Try.prog 49 [.nils, .ext 1 0 (fun _ => [])] [] (eS Sm0) [] := by
  refine ret_of_body atCalls tok mixed Try.func49 (by kernel_rfl) rfl (k := 39) (rs := [.cell 4 51]) (by kernel_rfl) (by kernel_rfl) ?_
  (conv => whnf) <;> repeat' (first | (refine Need.mk (by first | decide | omega | (simp; done) | (simp; omega)) ?_; conv => whnf) | (refine Cond.tt rfl ?_; conv => whnf) | (refine Cond.ff rfl ?_; conv => whnf) | (refine Pick.tt rfl ?_; conv => whnf) | (refine Pick.ff rfl ?_; conv => whnf) | (refine Called.mk _ _ (Join_nil) ?_; conv => whnf) | (refine Pick.mk (fun h => ?_) (fun h => ?_) <;> conv => whnf) | (refine Cond.mk (fun h => ?_) (fun h => ?_) <;> conv => whnf))
  exact End.mk rfl rfl
theorem tree_ret (c : Int) : ∀ (m n : Nat) (gc g : Nat → List Val) (l : List Sm), (∀ i, i < m → ∃ b : Int, gc i = [.int .u8 b] ∧ 0 ≤ b ∧ b < 256) → ExtL cS n g l → (∀ x ∈ l, SG c x) → n ≤ 4611686018427387904 → m ≤ 4611686018427387904 →
    Ret Try.prog 49 [.ext 23 n g, .ext 1 m gc] [] (eS (joinS l)) [] := by
  intro m
  induction m with
  | zero =>
    intro n gc g l hc hE hG hn hm
    refine ret_of_body atCalls tok mixed Try.func49 (by kernel_rfl) rfl (k := 39) (rs := [.cell 4 51]) (by kernel_rfl) (by kernel_rfl) ?_
    (conv => whnf) <;> repeat' (first | (refine Need.mk (by first | decide | omega | (simp; done) | (simp; omega)) ?_; conv => whnf) | (refine Cond.tt rfl ?_; conv => whnf) | (refine Cond.ff rfl ?_; conv => whnf) | (refine Pick.tt rfl ?_; conv => whnf) | (refine Pick.ff rfl ?_; conv => whnf) | (refine Called.mk _ _ (Join_ret n g l hE hn) ?_; conv => whnf) | (refine Cond.tt (by first | assumption | exact decT (by first | assumption | omega)) ?_; conv => whnf) | (refine Cond.ff (by first | assumption | exact decF (by first | assumption | omega)) ?_; conv => whnf) | (refine Pick.tt (by first | assumption | exact decT (by first | assumption | omega)) ?_; conv => whnf) | (refine Pick.ff (by first | assumption | exact decF (by first | assumption | omega)) ?_; conv => whnf) | (refine Pick.dec (fun h => ?_) (fun h => ?_) <;> conv => whnf) | (refine Pick.beq (fun h => ?_) (fun h => ?_) <;> conv => whnf) | (refine Cond.dec (fun h => ?_) (fun h => ?_) <;> conv => whnf) | (refine Cond.beq (fun h => ?_) (fun h => ?_) <;> conv => whnf) | (refine Cond.nd (fun h => ?_) (fun h => ?_) <;> conv => whnf) | (refine Pick.nd (fun h => ?_) (fun h => ?_) <;> conv => whnf) | (refine Pick.mk (fun h => ?_) (fun h => ?_) <;> conv => whnf) | (refine Cond.mk (fun h => ?_) (fun h => ?_) <;> conv => whnf))
    all_goals exact End.mk rfl rfl
  | succ m ih =>
    intro n gc g l hc hE hG hn hm
    rcases (by omega : n < 2 ∨ 2 ≤ n) with h2 | h2
    · refine ret_of_body atCalls tok mixed Try.func49 (by kernel_rfl) rfl (k := 39) (rs := [.cell 4 51]) (by kernel_rfl) (by kernel_rfl) ?_
      (conv => whnf) <;> repeat' (first | (refine Need.mk (by first | decide | omega | (simp; done) | (simp; omega)) ?_; conv => whnf) | (refine Cond.tt rfl ?_; conv => whnf) | (refine Cond.ff rfl ?_; conv => whnf) | (refine Pick.tt rfl ?_; conv => whnf) | (refine Pick.ff rfl ?_; conv => whnf) | (refine Called.mk _ _ (Join_ret n g l hE hn) ?_; conv => whnf) | (refine Cond.tt (by first | assumption | exact decT (by first | assumption | omega)) ?_; conv => whnf) | (refine Cond.ff (by first | assumption | exact decF (by first | assumption | omega)) ?_; conv => whnf) | (refine Pick.tt (by first | assumption | exact decT (by first | assumption | omega)) ?_; conv => whnf) | (refine Pick.ff (by first | assumption | exact decF (by first | assumption | omega)) ?_; conv => whnf) | (refine Pick.dec (fun h => ?_) (fun h => ?_) <;> conv => whnf) | (refine Pick.beq (fun h => ?_) (fun h => ?_) <;> conv => whnf) | (refine Cond.dec (fun h => ?_) (fun h => ?_) <;> conv => whnf) | (refine Cond.beq (fun h => ?_) (fun h => ?_) <;> conv => whnf) | (refine Cond.nd (fun h => ?_) (fun h => ?_) <;> conv => whnf) | (refine Pick.nd (fun h => ?_) (fun h => ?_) <;> conv => whnf) | (refine Pick.mk (fun h => ?_) (fun h => ?_) <;> conv => whnf) | (refine Cond.mk (fun h => ?_) (fun h => ?_) <;> conv => whnf))
      all_goals exact End.mk rfl rfl
    · obtain ⟨b, hb, hb0, hb1⟩ := hc 0 (by omega)
      have hb' : gc (Int.toNat 0) = [.int .u8 b] := hb
      have e1 : IntKind.i64.wrap b = b := wi64_id (by omega) (by omega)
      have e2 : IntKind.i64.wrap ((n : Int) - 1) = (n : Int) - 1 := wi64_id (by omega) (by omega)
      obtain ⟨k, hk, hk1, hk2⟩ : ∃ k : Nat, IntKind.i64.wrap (1 + b.tmod ((n : Int) - 1)) = (k : Int) ∧ 1 ≤ k ∧ k < n := by
        have t0 := Int.tmod_eq_emod_of_nonneg (b := (n : Int) - 1) hb0
        have t1 := Int.emod_nonneg b (show (n : Int) - 1 ≠ 0 by omega)
        have t2 := Int.emod_lt_of_pos b (show 0 < (n : Int) - 1 by omega)
        rw [← t0] at t1 t2
        refine ⟨(1 + b.tmod ((n : Int) - 1)).toNat, ?_, by omega, by omega⟩
        rw [wi64_id (by omega) (by omega), Int.toNat_of_nonneg (by omega)]
      have eM : Int.toNat ((m + 1 : Nat) : Int) - Int.toNat 1 = m := by omega
      have E1 : ExtL cS (Int.toNat (k : Int) - Int.toNat 0) (fun i => g (i + Int.toNat 0)) (l.take k) := by
        rw [Int.toNat_natCast]; exact hE.take (by omega)
      have E2 : ExtL cS (Int.toNat (n : Int) - Int.toNat (k : Int)) (fun i => g (i + Int.toNat (k : Int))) (l.drop k) := by
        rw [Int.toNat_natCast, Int.toNat_natCast]; exact hE.drop
      have G1 : ∀ x ∈ l.take k, SG c x := fun x hx => hG x (List.mem_of_mem_take hx)
      have G2 : ∀ x ∈ l.drop k, SG c x := fun x hx => hG x (List.mem_of_mem_drop hx)
      have hc' : ∀ i, i < m → ∃ b : Int, (fun i => gc (i + Int.toNat 1)) i = [.int .u8 b] ∧ 0 ≤ b ∧ b < 256 := fun i hi => hc (i + 1) (by omega)
      have T1 : Ret Try.prog 49 [.ext 23 (Int.toNat (k : Int) - Int.toNat 0) (fun i => g (i + Int.toNat 0)), .ext 1 (Int.toNat ((m + 1 : Nat) : Int) - Int.toNat 1) (fun i => gc (i + Int.toNat 1))] [] (eS (joinS (l.take k))) [] := by
        rw [eM]; exact ih _ _ _ _ hc' E1 G1 (by omega) (by omega)
      have T2 : Ret Try.prog 49 [.ext 23 (Int.toNat (n : Int) - Int.toNat (k : Int)) (fun i => g (i + Int.toNat (k : Int))), .ext 1 (Int.toNat ((m + 1 : Nat) : Int) - Int.toNat 1) (fun i => gc (i + Int.toNat 1))] [] (eS (joinS (l.drop k))) [] := by
        rw [eM]; exact ih _ _ _ _ hc' E2 G2 (by omega) (by omega)
      have J := joinS_append (l := l.take k) (m := l.drop k) G1 G2
      rw [List.take_append_drop, ← joinS_two (joinS_G G1)] at J
      rw [J]
      generalize joinS (l.take k) = u at *
      generalize joinS (l.drop k) = w at *
      refine ret_of_body atCalls tok mixed Try.func49 (by kernel_rfl) rfl (k := 39) (rs := [.cell 4 51]) (by kernel_rfl) (by kernel_rfl) ?_
      (conv => whnf) <;> repeat' (first | (rw [hb']; conv => whnf) | (rw [e1]; conv => whnf) | (rw [e2]; conv => whnf) | (rw [hk]; conv => whnf) | (refine Need.mk (by first | decide | omega | (simp; done) | (simp; omega)) ?_; conv => whnf) | (refine Cond.tt rfl ?_; conv => whnf) | (refine Cond.ff rfl ?_; conv => whnf) | (refine Pick.tt rfl ?_; conv => whnf) | (refine Pick.ff rfl ?_; conv => whnf) | (refine Called.mk _ _ (T1) ?_; conv => whnf) | (refine Called.mk _ _ (T2) ?_; conv => whnf) | (refine Called.mk _ _ (Join_ret 2 _ [u, w] ⟨rfl, fun i h => match i, h with | 0, _ => rfl | 1, _ => rfl⟩ (by decide)) ?_; conv => whnf) | (refine Cond.tt (by first | assumption | exact decT (by first | assumption | omega)) ?_; conv => whnf) | (refine Cond.ff (by first | assumption | exact decF (by first | assumption | omega)) ?_; conv => whnf) | (refine Pick.tt (by first | assumption | exact decT (by first | assumption | omega)) ?_; conv => whnf) | (refine Pick.ff (by first | assumption | exact decF (by first | assumption | omega)) ?_; conv => whnf) | (refine Pick.dec (fun h => ?_) (fun h => ?_) <;> conv => whnf) | (refine Pick.beq (fun h => ?_) (fun h => ?_) <;> conv => whnf) | (refine Cond.dec (fun h => ?_) (fun h => ?_) <;> conv => whnf) | (refine Cond.beq (fun h => ?_) (fun h => ?_) <;> conv => whnf) | (refine Cond.nd (fun h => ?_) (fun h => ?_) <;> conv => whnf) | (refine Pick.nd (fun h => ?_) (fun h => ?_) <;> conv => whnf) | (refine Pick.mk (fun h => ?_) (fun h => ?_) <;> conv => whnf) | (refine Cond.mk (fun h => ?_) (fun h => ?_) <;> conv => whnf))
      all_goals exact End.mk rfl rfl
end Go.Proofs.Ytenlkhlkohnmkaa
set_option linter.unusedVariables false
set_option linter.unusedSimpArgs false
set_option maxRecDepth 100000
namespace Go.Proofs.Ytenlkhlkohnmkaa
open Go.AM
theorem pick20 (m : Nat) : 0 ≤ pickM false (m : Int) 20 ∧ pickM false (m : Int) 20 ≤ m ∧ pickM false (m : Int) 20 ≤ 20 := by
  show 0 ≤ (if (20 : Int) < m then 20 else (m : Int)) ∧ (if (20 : Int) < m then 20 else (m : Int)) ≤ m ∧ (if (20 : Int) < m then 20 else (m : Int)) ≤ 20
  split <;> omega
theorem summaryMonoid_nil (g gc : Nat → List Val) (c : Int) (m : Nat) : Ret Try.prog 13 [.ext 10 0 g, .int .i64 c, .ext 1 m gc] [] (.bool true) [] := by
  have hp := pick20 m
  have hT : ∀ cuts, Ret Try.prog 49 [.nils, cuts] [] (eS Sm0) [] := by
    intro cuts
    refine ret_of_body atCalls tok mixed Try.func49 (by kernel_rfl) rfl (k := 39) (rs := [.cell 4 51]) (by kernel_rfl) (by kernel_rfl) ?_
    (conv => whnf) <;> repeat' (first | (refine Need.mk (by first | decide | omega | (simp; done) | (simp; omega)) ?_; conv => whnf) | (refine Cond.tt rfl ?_; conv => whnf) | (refine Cond.ff rfl ?_; conv => whnf) | (refine Pick.tt rfl ?_; conv => whnf) | (refine Pick.ff rfl ?_; conv => whnf) | (refine Called.mk _ _ (Join_nil) ?_; conv => whnf) | (refine Pick.mk (fun h => ?_) (fun h => ?_) <;> conv => whnf) | (refine Cond.mk (fun h => ?_) (fun h => ?_) <;> conv => whnf))
    exact End.mk rfl rfl
  refine ret_of_body atCalls tok mixed Try.func13 (by kernel_rfl) rfl (k := 40) (rs := [.tmp 6]) (by kernel_rfl) (by kernel_rfl) ?_
  (conv => whnf) <;> repeat' (first | (refine Need.mk (by first | decide | omega | (simp; done) | (simp; omega)) ?_; conv => whnf) | (refine Cond.tt rfl ?_; conv => whnf) | (refine Cond.ff rfl ?_; conv => whnf) | (refine Pick.tt rfl ?_; conv => whnf) | (refine Pick.ff rfl ?_; conv => whnf) | (refine Called.mk _ _ (sums_nil g c) ?_; conv => whnf) | (refine Called.mk _ _ (live5) ?_; conv => whnf) | (refine Called.mk _ _ (hT _) ?_; conv => whnf) | (refine Called.mk _ _ (Join_nil) ?_; conv => whnf) | (refine Called.mk _ _ (Join_ret 3 _ [Sm0, Sm0, Sm0] ⟨rfl, fun i h => match i, h with | 0, _ => rfl | 1, _ => rfl | 2, _ => rfl⟩ (by decide)) ?_; conv => whnf) | (refine Pick.mk (fun h => ?_) (fun h => ?_) <;> conv => whnf) | (refine Cond.mk (fun h => ?_) (fun h => ?_) <;> conv => whnf))
  rw [show joinS [Sm0, Sm0, Sm0] = Sm0 from joinS_mid (SG0 0)]
  exact End.mk (bool_eq (by simp)) rfl
theorem summaryMonoid_ret (n m : Nat) (g gc : Nat → List Val) (l : List Vl) (c : Int) (hE : ExtL cV n g l) (hc : ∀ i, i < m → ∃ b : Int, gc i = [.int .u8 b] ∧ 0 ≤ b ∧ b < 256) (hn : n ≤ 100000000000) (hm : m ≤ 9223372036854775807) (h0 : 0 < n) :
    Ret Try.prog 13 [.ext 10 n g, .int .i64 c, .ext 1 m gc] [] (.bool true) [] := by
  have hp := pick20 m
  have hs := sums_ret n g l c hE hn h0
  have hL : ∀ x ∈ l.map fun v => ofVl v c, SG c x := by
    intro x hx
    obtain ⟨v, _, rfl⟩ := List.mem_map.1 hx
    exact SG_of v c
  have hlen : (l.map fun v => ofVl v c).length = n := by rw [List.length_map]; exact hE.1
  generalize (l.map fun v => ofVl v c) = L at *
  have E : ExtL cS n (sumsG L n) L := ⟨hlen, fun i h => sumsG_at L n i h (by omega)⟩
  have hT := tree_ret c (Int.toNat (pickM false (m : Int) 20) - Int.toNat 0) n (fun i => gc (i + Int.toNat 0)) (sumsG L n) L (fun i hi => hc i (by have : Int.toNat 0 = 0 := rfl; omega)) E hL (by omega) (by omega)
  have hJ := Join_ret n (sumsG L n) L E (by omega)
  have hj := joinS_mid (joinS_G hL)
  generalize sumsG L n = G at *
  generalize joinS L = J at *
  refine ret_of_body atCalls tok mixed Try.func13 (by kernel_rfl) rfl (k := 40) (rs := [.tmp 6]) (by kernel_rfl) (by kernel_rfl) ?_
  (conv => whnf) <;> repeat' (first | (refine Need.mk (by first | decide | omega | (simp; done) | (simp; omega)) ?_; conv => whnf) | (refine Cond.tt rfl ?_; conv => whnf) | (refine Cond.ff rfl ?_; conv => whnf) | (refine Pick.tt rfl ?_; conv => whnf) | (refine Pick.ff rfl ?_; conv => whnf) | (refine Called.mk _ _ (hs) ?_; conv => whnf) | (refine Called.mk _ _ (live5) ?_; conv => whnf) | (refine Called.mk _ _ (hT) ?_; conv => whnf) | (refine Called.mk _ _ (hJ) ?_; conv => whnf) | (refine Called.mk _ _ (Join_nil) ?_; conv => whnf) | (refine Called.mk _ _ (Join_ret 3 _ [Sm0, J, Sm0] ⟨rfl, fun i h => match i, h with | 0, _ => rfl | 1, _ => rfl | 2, _ => rfl⟩ (by decide)) ?_; conv => whnf) | (refine Pick.mk (fun h => ?_) (fun h => ?_) <;> conv => whnf) | (refine Cond.mk (fun h => ?_) (fun h => ?_) <;> conv => whnf))
  all_goals
    refine End.mk (bool_eq ?_) rfl
    simp only [hj] at *
    simp_all
end Go.Proofs.Ytenlkhlkohnmkaa
set_option linter.unusedVariables false
set_option linter.unusedSimpArgs false
set_option maxRecDepth 100000
namespace Go.Proofs.Ytenlkhlkohnmkaa
open Go.AM
set_option maxHeartbeats 4000000 in
theorem summaryExact_ret (n : Nat) (g : Nat → List Val) (l : List D) (d : D) (hE : ExtL cD n g l) (hn : n ≤ 1048576) : Ret Try.prog 14 [.ext 6 n g, eD d] [] (.bool true) [] := by
  obtain ⟨rfl, hE⟩ := hE
  have hz : ∀ L, sumT L % B5 = 0 → (ofVl (numV d) d.scale).filled = 1 → narrow (joinS (L ++ [ofVl (numV d) d.scale])).total d.scale = (d, 0) := fun L hL hf => by
    obtain ⟨h1, _, h3⟩ := of_filled hf
    rw [h3, exact_end hL, narrow_widen h1]
  refine ret_of_body atCalls tok mixed Try.func14 (by kernel_rfl) rfl (k := 81) (rs := [.tmp 4]) (by kernel_rfl) (by kernel_rfl) ?_
  (conv => whnf) <;> repeat' (first | (refine Need.mk (by first | decide | omega | (simp; done) | (simp; omega)) ?_; conv => whnf) | (refine Cond.tt rfl ?_; conv => whnf) | (refine Cond.ff rfl ?_; conv => whnf) | (refine Pick.tt rfl ?_; conv => whnf) | (refine Pick.ff rfl ?_; conv => whnf) | (refine Pick.mk (fun h => ?_) (fun h => ?_) <;> conv => whnf) | (refine Cond.mk (fun h => ?_) (fun h => ?_) <;> conv => whnf))
  intro I hw hs
  have fin0 : I [.und, .und, .und, .ptr 0 0, .bool false, .nils, .und, .und, .und, .und, .und, .und, .und, .ext 6 l.length g, .int .i64 (l.length : Int), .int .i64 (l.length : Int), .und, .und, .und, .und, .und, .und, .und, .und, .und, .und, .und, .und, .und, .und, .und, .und, .und, .und, .und, .und, .und, .und, .und, .und, .und, .und, .und, .und, .und, .und, .und, .und, .und, .und, .und, .und, .und, .und, .und, .und, .und, .und, .und, .und, .und, .und, .und, .und, .und, .und, .und, .und, .und, .und, .und, .und, .und, .und, .und, .und, .und, .und, .und, .und, .und] [.cells (cD d)] := by
    have hx := hz [] rfl
    have hJ := Join_ret 1 (oneS (ofVl (numV d) d.scale)) [ofVl (numV d) d.scale] (ExtL.one _) (by decide)
    apply hs
    conv => whnf
    refine Cond.ff (decF (by omega)) ?_
    (conv => whnf) <;> repeat' (first | (refine Need.mk (by first | decide | omega | (simp; done) | (simp; omega)) ?_; conv => whnf) | (refine Cond.tt rfl ?_; conv => whnf) | (refine Cond.ff rfl ?_; conv => whnf) | (refine Pick.tt rfl ?_; conv => whnf) | (refine Pick.ff rfl ?_; conv => whnf) | (refine Called.mk _ _ (Of_ret (numV d) d.scale) ?_; conv => whnf) | (refine Called.mk _ _ (live5) ?_; conv => whnf) | (refine Called.mk _ _ (hJ) ?_; conv => whnf) | (refine Called.mk _ _ (Total_ret (joinS [ofVl (numV d) d.scale]) d.scale) ?_; conv => whnf) | (refine Pick.mk (fun h => ?_) (fun h => ?_) <;> conv => whnf) | (refine Cond.mk (fun h => ?_) (fun h => ?_) <;> conv => whnf))
    all_goals
      clear hw hs hJ hz
      refine End.mk (bool_eq ?_) rfl
      first
        | rfl
        | (have hf : (ofVl (numV d) d.scale).filled = 1 := by simp_all
           have hx := hx hf
           rw [List.nil_append] at hx
           rw [hx] at *
           simp_all)
  have finR : ∀ (N : Nat) (g' : Nat → List Val) (L : List Sm) (pr : Nat), ExtL cS N g' L → sumT L % B5 = 0 → N ≤ 2 * l.length → I [.und, .und, .und, .ptr 0 0, .bool false, .row 1 N, .und, .und, .und, .und, .und, .und, .und, .ext 6 l.length g, .int .i64 (l.length : Int), .int .i64 (l.length : Int), .und, .und, .und, .und, .und, .und, .und, .und, .und, .und, .und, .und, .und, .und, .und, .und, .und, .und, .und, .und, .und, .und, .und, .und, .und, .und, .und, .und, .und, .und, .und, .und, .und, .und, .und, .und, .und, .und, .und, .und, .und, .und, .und, .und, .und, .und, .und, .und, .und, .und, .und, .und, .und, .und, .und, .und, .und, .und, .und, .und, .und, .und, .und, .und, .und] [.cells (cD d), .row 51 23 N g' pr] := by
    intro N g' L pr hL hsum hN
    have hx := hz L hsum
    have hJ := Join_ret (N + 1) _ (L ++ [ofVl (numV d) d.scale]) (hL.snoc _) (by omega)
    apply hs
    conv => whnf
    refine Cond.ff (decF (by omega)) ?_
    (conv => whnf) <;> repeat' (first | (refine Need.mk (by first | decide | omega | (simp; done) | (simp; omega)) ?_; conv => whnf) | (refine Cond.tt rfl ?_; conv => whnf) | (refine Cond.ff rfl ?_; conv => whnf) | (refine Pick.tt rfl ?_; conv => whnf) | (refine Pick.ff rfl ?_; conv => whnf) | (refine Called.mk _ _ (Of_ret (numV d) d.scale) ?_; conv => whnf) | (refine Called.mk _ _ (live5) ?_; conv => whnf) | (refine Called.mk _ _ (hJ) ?_; conv => whnf) | (refine Called.mk _ _ (Total_ret (joinS (L ++ [ofVl (numV d) d.scale])) d.scale) ?_; conv => whnf) | (refine Pick.mk (fun h => ?_) (fun h => ?_) <;> conv => whnf) | (refine Cond.mk (fun h => ?_) (fun h => ?_) <;> conv => whnf))
    all_goals
      clear hw hs hJ hz
      refine End.mk (bool_eq ?_) rfl
      first
        | rfl
        | (have hf : (ofVl (numV d) d.scale).filled = 1 := by simp_all
           have hx := hx hf
           rw [hx] at *
           simp_all)
  have key : ∀ (j k : Nat), j + k = l.length → I [.und, .und, .und, .ptr 0 0, .bool false, .nils, .und, .und, .und, .und, .und, .und, .und, .ext 6 l.length g, .int .i64 (l.length : Int), .int .i64 (k : Int), .und, .und, .und, .und, .und, .und, .und, .und, .und, .und, .und, .und, .und, .und, .und, .und, .und, .und, .und, .und, .und, .und, .und, .und, .und, .und, .und, .und, .und, .und, .und, .und, .und, .und, .und, .und, .und, .und, .und, .und, .und, .und, .und, .und, .und, .und, .und, .und, .und, .und, .und, .und, .und, .und, .und, .und, .und, .und, .und, .und, .und, .und, .und, .und, .und] [.cells (cD d)] ∧
      ∀ (N : Nat) (g' : Nat → List Val) (L : List Sm) (pr : Nat), ExtL cS N g' L → sumT L % B5 = 0 → N ≤ 2 * k → I [.und, .und, .und, .ptr 0 0, .bool false, .row 1 N, .und, .und, .und, .und, .und, .und, .und, .ext 6 l.length g, .int .i64 (l.length : Int), .int .i64 (k : Int), .und, .und, .und, .und, .und, .und, .und, .und, .und, .und, .und, .und, .und, .und, .und, .und, .und, .und, .und, .und, .und, .und, .und, .und, .und, .und, .und, .und, .und, .und, .und, .und, .und, .und, .und, .und, .und, .und, .und, .und, .und, .und, .und, .und, .und, .und, .und, .und, .und, .und, .und, .und, .und, .und, .und, .und, .und, .und, .und, .und, .und, .und, .und, .und, .und] [.cells (cD d), .row 51 23 N g' pr] := by
    intro j
    induction j with
    | zero =>
      intro k hk
      have : k = l.length := by omega
      subst this
      exact ⟨fin0, finR⟩
    | succ j ih =>
      intro k hk
      obtain ⟨ih0, ihR⟩ := ih (k + 1) (by omega)
      clear fin0 finR ih hz
      have hlt : k < l.length := by omega
      have hg : g (Int.toNat (k : Int)) = cD l[k] := by rw [Int.toNat_natCast]; exact hE k hlt
      have hI : IntKind.i64.wrap ((k : Int) + 1) = ((k + 1 : Nat) : Int) := by rw [wi64_id (by omega) (by omega)]; omega
      clear hE
      generalize l[k] = x at *
      have hf : ∀ L, sumT L % B5 = 0 → (ofVl (numV x) x.scale).filled = 1 → (ofVl (numV (negD x)) x.scale).filled = 1 → sumT (ofVl (numV (negD x)) x.scale :: (L ++ [ofVl (numV x) x.scale])) % B5 = 0 := fun L hL h1 h2 => by
        rw [(of_filled h1).2.2, (of_filled h2).2.2]; exact exact_step hL
      constructor
      · apply hs
        conv => whnf
        refine Cond.tt (decT (by omega)) ?_
        (conv => whnf) <;> repeat' (first | (rw [hg]; conv => whnf) | (refine Need.mk (by first | decide | omega | (simp; done) | (simp; omega)) ?_; conv => whnf) | (refine Cond.tt rfl ?_; conv => whnf) | (refine Cond.ff rfl ?_; conv => whnf) | (refine Pick.tt rfl ?_; conv => whnf) | (refine Pick.ff rfl ?_; conv => whnf) | (refine Called.mk _ _ (Of_ret (numV x) x.scale) ?_; conv => whnf) | (refine Called.mk _ _ (Of_ret (numV (negD x)) x.scale) ?_; conv => whnf) | (refine Pick.mk (fun h => ?_) (fun h => ?_) <;> conv => whnf) | (refine Cond.mk (fun h => ?_) (fun h => ?_) <;> conv => whnf))
        all_goals rw [hI]
        · rename_i h1
          apply hw [0, 7] [false, false, false, true, true, true, false, false, false, false, false, false, false, true, true, true] _ _ (by decide)
          exact ihR (1 + 1) _ _ _ ((ExtL.one _).cons _) (hf [] rfl (by simpa using h1) (by simpa using h)) (show 1 + 1 ≤ 2 * (k + 1) by omega)
        · apply hw [0] [false, false, false, true, true, true, false, false, false, false, false, false, false, true, true, true] _ _ (by decide)
          exact ih0
        · apply hw [0] [false, false, false, true, true, true, false, false, false, false, false, false, false, true, true, true] _ _ (by decide)
          exact ih0
      · intro N g' L pr hL hsum hN
        apply hs
        conv => whnf
        refine Cond.tt (decT (by omega)) ?_
        (conv => whnf) <;> repeat' (first | (rw [hg]; conv => whnf) | (refine Need.mk (by first | decide | omega | (simp; done) | (simp; omega)) ?_; conv => whnf) | (refine Cond.tt rfl ?_; conv => whnf) | (refine Cond.ff rfl ?_; conv => whnf) | (refine Pick.tt rfl ?_; conv => whnf) | (refine Pick.ff rfl ?_; conv => whnf) | (refine Called.mk _ _ (Of_ret (numV x) x.scale) ?_; conv => whnf) | (refine Called.mk _ _ (Of_ret (numV (negD x)) x.scale) ?_; conv => whnf) | (refine Pick.mk (fun h => ?_) (fun h => ?_) <;> conv => whnf) | (refine Cond.mk (fun h => ?_) (fun h => ?_) <;> conv => whnf))
        all_goals rw [hI]
        · rename_i h1
          apply hw [0, 8] [false, false, false, true, true, true, false, false, false, false, false, false, false, true, true, true] _ _ (by decide)
          exact ihR _ _ _ _ ((hL.snoc _).cons _) (hf L hsum (by simpa using h1) (by simpa using h)) (by omega)
        · apply hw [0, 1] [false, false, false, true, true, true, false, false, false, false, false, false, false, true, true, true] _ _ (by decide)
          exact ihR _ _ _ _ hL hsum (by omega)
        · apply hw [0, 1] [false, false, false, true, true, true, false, false, false, false, false, false, false, true, true, true] _ _ (by decide)
          exact ihR _ _ _ _ hL hsum (by omega)
  apply hw [0] [false, false, false, true, true, true, false, false, false, false, false, false, false, true, true, true] _ _ (by decide)
  exact (key l.length 0 (by omega)).1
end Go.Proofs.Ytenlkhlkohnmkaa
