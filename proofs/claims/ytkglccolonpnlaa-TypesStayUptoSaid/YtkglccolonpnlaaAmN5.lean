/- slices.Clone over items. -/
import Derived.Test.YtkglccolonpnlaaAmN4
import Derived.Test.YtkglccolonpnlaaAmPure
import Derived.Shelf.Lay
import Derived.Lib.SliceRun
import Derived.Maps.AppendAt
import Derived.WalkKit
import Derived.BigCall
set_option linter.unusedVariables false
set_option linter.unusedSimpArgs false
set_option maxRecDepth 100000
namespace Go.Proofs
open Go.RowKit Go.AM
set_option maxHeartbeats 4000000 in
set_option maxRecDepth 1000000 in
theorem Try.clone_empty (ad : Addr) (c : Nat) (w : World) :
    Calls Try.prog 17 #[.slice (some ad) 0 c] w fun e w' => (∃ a' c', e = .returned (.slice (some a') 0 c')) ∧ Below w.heap.size w w' := by
  have q22 : ∀ (w : World) (a : Option Addr) (n c n' c' : Nat), (binOp .eql 36 (.slice a n c) (.slice none n' c')).run Try.prog w = .ok (.bool a.isNone) w := fun w a n c n' c' => Lib.run_eql_slice_nil w _ _ a n c n' c' Try.underlying36
  go_enter Try.func17, Try.ntmps17
  go_wp2
  go_ret
  exact ⟨⟨_, _, rfl⟩, (Below.refl _ w).alloc (Nat.le_refl _) _⟩
set_option maxHeartbeats 4000000 in
set_option maxRecDepth 1000000 in
theorem Try.clone_nil (c : Nat) (w : World) :
    Calls Try.prog 17 #[.slice none 0 c] w fun e w' => e = .returned (.slice none 0 0) ∧ Below w.heap.size w w' := by
  have q22 : ∀ (w : World) (a : Option Addr) (n c n' c' : Nat), (binOp .eql 36 (.slice a n c) (.slice none n' c')).run Try.prog w = .ok (.bool a.isNone) w := fun w a n c n' c' => Lib.run_eql_slice_nil w _ _ a n c n' c' Try.underlying36
  go_enter Try.func17, Try.ntmps17
  go_wp2
  go_ret
  exact ⟨rfl, Below.refl _ w⟩
end Go.Proofs
namespace Go.Proofs.Ytkglccolonpnlaa
open Go.AM Go.RowKit
theorem clone0 (g : Nat → List Val) : Ret Try.prog 17 [.ext 23 0 g] [] (.ext 23 0 g) [] := by
  refine ⟨⟨_, _, Try.func17, by kernel_rfl, rfl⟩, fun ι φ w cs hn hs ht => ?_⟩
  have hl : cs.size = 1 := by simpa using ht.len
  have h0 := ht.rel 0 (by simp)
  have hcs : cs = #[cs.getD 0 undef] := by
    refine Array.ext (by simpa using hl) fun i hi hi' => ?_
    obtain rfl : i = 0 := by omega
    rw [Array.getD_eq_getD_getElem?, Array.getElem?_eq_getElem hi]; rfl
  rw [hcs]
  generalize cs.getD 0 undef = u at *
  have h0 : Rel ι φ (.ext 23 0 g) u := h0
  cases h0 with
  | c hc =>
    cases hc with
    | ext _ _ _ a c vals hc hl hφ h1 hr =>
      refine (Try.clone_empty a c w).mono fun e w' ⟨⟨a', c', he⟩, hb⟩ => ?_
      exact ⟨.slice (some a') 0 c', ι, φ, he, .refl _, Inv.below hs hb (.refl _) (fun a v ha => .inl ha), .c (.ext 23 0 g a' c' (fun _ _ => undef) (Nat.zero_le _) (fun i hi => absurd hi (by omega)) (fun i j hi => absurd hi (by omega)) (fun i j hi => absurd hi (by omega)) (fun i j hi => absurd hi (by omega))), hn⟩
    | extNil =>
      refine (Try.clone_nil 0 w).mono fun e w' ⟨he, hb⟩ => ?_
      exact ⟨.slice none 0 0, ι, φ, he, .refl _, Inv.below hs hb (.refl _) (fun a v ha => .inl ha), .c (.extNil 23 g), hn⟩
theorem clone_ret (l : List It) (hl : l.length * 232 ≤ 140737488355328) : Ret Try.prog 17 [eL 23 cIt l] [] (eL 23 cIt l) [] := by
  rcases Nat.eq_zero_or_pos l.length with h0 | h0
  · have : l = [] := List.eq_nil_of_length_eq_zero h0
    subst this
    exact clone0 _
  · obtain ⟨m, hm⟩ : ∃ m, l.length = m + 1 := ⟨l.length - 1, by omega⟩
    have h : Ret Try.prog 17 [.ext 23 (m + 1) (getL cIt l)] [] (.row 0 (m + 1)) [.row 56 23 (m + 1) (getL cIt l) 0] := by
      rw [hm] at hl
      have gz : (fun i => if i < 0 then (fun i => (pieces 23 0 []).getD i []) i else getL cIt l (i - 0)) = getL cIt l := funext fun i => if_neg (by omega)
      refine ret_of_body atCalls tok mixed Try.func17 (by kernel_rfl) rfl (k := 8) (rs := [.tmp 2]) (by kernel_rfl) (by kernel_rfl) ?_
      (conv => whnf) <;> repeat' (first | (rw [gz]; conv => whnf) | (rw [Nat.zero_add]; conv => whnf) | ((first | refine wN ?_ | refine wA ?_ | refine wB ?_ | refine wC ?_ | refine wD ?_ | refine vA ?_ | refine vB ?_ | refine vC ?_ | refine vD ?_ | refine uA ?_ | refine uB ?_ | refine uC ?_ | refine uD ?_); conv => whnf) | ((first | refine Pick.dec (fun h => ?_) (fun h => ?_) | refine Pick.beq (fun h => ?_) (fun h => ?_) | refine Cond.dec (fun h => ?_) (fun h => ?_) | refine Cond.beq (fun h => ?_) (fun h => ?_) | refine Cond.nd (fun h => ?_) (fun h => ?_) | refine Pick.nd (fun h => ?_) (fun h => ?_) | refine Pick.mk (fun h => ?_) (fun h => ?_) | refine Cond.mk (fun h => ?_) (fun h => ?_)) <;> conv => whnf))
      exact EndH.mk [1] rfl rfl rfl
    have h2 : Ret Try.prog 17 [.ext 23 (m + 1) (getL cIt l)] [] (.ext 23 (m + 1) (getL cIt l)) [] := h.lend ⟨rfl, Nat.le_refl _, Nat.le_refl _⟩ rfl
    rw [← hm] at h2
    exact h2
end Go.Proofs.Ytkglccolonpnlaa

