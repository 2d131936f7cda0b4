/- slices.Clone of values and of ints. Printed by wip/tools/clonegen2.py. -/
import Derived.Test.YtafiechoplbieaaAmJh
import Derived.Test.YtafiechoplbieaaAmHn
import Derived.Shelf.Lay
import Derived.Lib.SliceRun
import Derived.Maps.AppendAt
import Derived.WalkKit
import Derived.BigCall
set_option linter.unusedVariables false
set_option linter.unusedSimpArgs false
set_option maxRecDepth 100000
namespace Go.Proofs
open Go.RowKit Go.AM
set_option maxHeartbeats 4000000 in
set_option maxRecDepth 1000000 in
theorem Try.tcloneEV (ad : Addr) (c : Nat) (w : World) :
    Calls Try.prog 19 #[.slice (some ad) 0 c] w fun e w' => (∃ a', e = .returned (.slice (some a') 0 0)) ∧ Below w.heap.size w w' := by
  have q22 : ∀ (w : World) (a : Option Addr) (n c n' c' : Nat), (binOp .eql 29 (.slice a n c) (.slice none n' c')).run Try.prog w = .ok (.bool a.isNone) w := fun w a n c n' c' => Lib.run_eql_slice_nil w _ _ a n c n' c' Try.underlying29
  go_enter Try.func19, Try.ntmps19
  go_wp2
  go_ret
  exact ⟨⟨_, rfl⟩, (Below.refl _ w).alloc (Nat.le_refl _) _⟩
set_option maxHeartbeats 4000000 in
set_option maxRecDepth 1000000 in
theorem Try.tcloneNV (c : Nat) (w : World) :
    Calls Try.prog 19 #[.slice none 0 c] w fun e w' => e = .returned (.slice none 0 0) ∧ Below w.heap.size w w' := by
  have q22 : ∀ (w : World) (a : Option Addr) (n c n' c' : Nat), (binOp .eql 29 (.slice a n c) (.slice none n' c')).run Try.prog w = .ok (.bool a.isNone) w := fun w a n c n' c' => Lib.run_eql_slice_nil w _ _ a n c n' c' Try.underlying29
  go_enter Try.func19, Try.ntmps19
  go_wp2
  go_ret
  exact ⟨rfl, Below.refl _ w⟩
set_option maxHeartbeats 4000000 in
set_option maxRecDepth 1000000 in
theorem Try.tcloneEI (ad : Addr) (c : Nat) (w : World) :
    Calls Try.prog 32 #[.slice (some ad) 0 c] w fun e w' => (∃ a', e = .returned (.slice (some a') 0 0)) ∧ Below w.heap.size w w' := by
  have q22 : ∀ (w : World) (a : Option Addr) (n c n' c' : Nat), (binOp .eql 22 (.slice a n c) (.slice none n' c')).run Try.prog w = .ok (.bool a.isNone) w := fun w a n c n' c' => Lib.run_eql_slice_nil w _ _ a n c n' c' Try.underlying22
  go_enter Try.func32, Try.ntmps32
  go_wp2
  go_ret
  exact ⟨⟨_, rfl⟩, (Below.refl _ w).alloc (Nat.le_refl _) _⟩
set_option maxHeartbeats 4000000 in
set_option maxRecDepth 1000000 in
theorem Try.tcloneNI (c : Nat) (w : World) :
    Calls Try.prog 32 #[.slice none 0 c] w fun e w' => e = .returned (.slice none 0 0) ∧ Below w.heap.size w w' := by
  have q22 : ∀ (w : World) (a : Option Addr) (n c n' c' : Nat), (binOp .eql 22 (.slice a n c) (.slice none n' c')).run Try.prog w = .ok (.bool a.isNone) w := fun w a n c n' c' => Lib.run_eql_slice_nil w _ _ a n c n' c' Try.underlying22
  go_enter Try.func32, Try.ntmps32
  go_wp2
  go_ret
  exact ⟨rfl, Below.refl _ w⟩
end Go.Proofs
namespace Go.Proofs.Ytafiechoplbieaa
open Go.AM Go.RowKit
theorem tcloneV0 (g : Nat → List Val) : Ret Try.prog 19 [.ext 10 0 g] [] .emp [] := by
  refine ⟨⟨_, _, Try.func19, by kernel_rfl, rfl⟩, fun ι φ w cs hn hs ht => ?_⟩
  have hl : cs.size = 1 := by simpa using ht.len
  have h0 := ht.rel 0 (by simp)
  have hcs : cs = #[cs.getD 0 undef] := by
    refine Array.ext (by simpa using hl) fun i hi hi' => ?_
    obtain rfl : i = 0 := by omega
    rw [Array.getD_eq_getD_getElem?, Array.getElem?_eq_getElem hi]; rfl
  rw [hcs]
  generalize cs.getD 0 undef = u at *
  have h0 : Rel ι φ (.ext 10 0 g) u := h0
  cases h0 with
  | c hc =>
    cases hc with
    | ext _ _ _ a c vals hc hl hφ h1 hr =>
      refine (Try.tcloneEV a c w).mono fun e w' ⟨⟨a', he⟩, hb⟩ => ?_
      exact ⟨.slice (some a') 0 0, ι, φ, he, .refl _, Inv.below hs hb (.refl _) (fun a v ha => .inl ha), .c (.emp (some a')), hn⟩
    | extNil =>
      refine (Try.tcloneNV 0 w).mono fun e w' ⟨he, hb⟩ => ?_
      exact ⟨.slice none 0 0, ι, φ, he, .refl _, Inv.below hs hb (.refl _) (fun a v ha => .inl ha), .c (.emp none), hn⟩
theorem tcloneV1 (m : Nat) (g : Nat → List Val) (hl : (m + 1) * 88 ≤ 140737488355328) : Ret Try.prog 19 [.ext 10 (m + 1) g] [] (.row 0 (m + 1)) [.row 54 10 (m + 1) g 0] := by
  have gz : (fun i => if i < 0 then (fun i => (pieces 10 0 []).getD i []) i else g (i - 0)) = g := funext fun i => if_neg (by omega)
  refine ret_of_body atCalls tok mixed Try.func19 (by kernel_rfl) rfl (k := 8) (rs := [.tmp 2]) (by kernel_rfl) (by kernel_rfl) ?_
  (conv => whnf) <;> repeat' (first | (rw [gz]; conv => whnf) | (rw [Nat.zero_add]; conv => whnf) | ((first | refine wN ?_ | refine wNc ?_ | refine wA ?_ | refine wB ?_ | refine wC ?_ | refine wD ?_ | refine vA ?_ | refine vB ?_ | refine vC ?_ | refine vD ?_ | refine uA ?_ | refine uB ?_ | refine uC ?_ | refine uD ?_); conv => whnf) | ((first | apply Pick.dec | apply Pick.beq | apply Cond.dec | apply Cond.beq | apply Cond.nd | apply Pick.nd | apply Pick.mk | apply Cond.mk) <;> intro h <;> conv => whnf))
  exact EndH.mk [1] rfl rfl rfl
theorem tcloneI0 (g : Nat → List Val) : Ret Try.prog 32 [.ext 1 0 g] [] (.ext 1 0 g) [] := by
  refine ⟨⟨_, _, Try.func32, by kernel_rfl, rfl⟩, fun ι φ w cs hn hs ht => ?_⟩
  have hl : cs.size = 1 := by simpa using ht.len
  have h0 := ht.rel 0 (by simp)
  have hcs : cs = #[cs.getD 0 undef] := by
    refine Array.ext (by simpa using hl) fun i hi hi' => ?_
    obtain rfl : i = 0 := by omega
    rw [Array.getD_eq_getD_getElem?, Array.getElem?_eq_getElem hi]; rfl
  rw [hcs]
  generalize cs.getD 0 undef = u at *
  have h0 : Rel ι φ (.ext 1 0 g) u := h0
  cases h0 with
  | c hc =>
    cases hc with
    | ext _ _ _ a c vals hc hl hφ h1 hr =>
      refine (Try.tcloneEI a c w).mono fun e w' ⟨⟨a', he⟩, hb⟩ => ?_
      exact ⟨.slice (some a') 0 0, ι, φ, he, .refl _, Inv.below hs hb (.refl _) (fun a v ha => .inl ha), .c (.ext 1 0 g a' 0 (fun _ _ => undef) (Nat.zero_le _) (fun i hi => absurd hi (by omega)) (fun i j hi => absurd hi (by omega)) (fun i j hi => absurd hi (by omega)) (fun i j hi => absurd hi (by omega))), hn⟩
    | extNil =>
      refine (Try.tcloneNI 0 w).mono fun e w' ⟨he, hb⟩ => ?_
      exact ⟨.slice none 0 0, ι, φ, he, .refl _, Inv.below hs hb (.refl _) (fun a v ha => .inl ha), .c (.extNil 1 g), hn⟩
theorem tcloneI1 (m : Nat) (g : Nat → List Val) (hl : (m + 1) * 8 ≤ 140737488355328) : Ret Try.prog 32 [.ext 1 (m + 1) g] [] (.row 0 (m + 1)) [.row 3 1 (m + 1) g 0] := by
  have gz : (fun i => if i < 0 then (fun i => (pieces 1 0 []).getD i []) i else g (i - 0)) = g := funext fun i => if_neg (by omega)
  refine ret_of_body atCalls tok mixed Try.func32 (by kernel_rfl) rfl (k := 8) (rs := [.tmp 2]) (by kernel_rfl) (by kernel_rfl) ?_
  (conv => whnf) <;> repeat' (first | (rw [gz]; conv => whnf) | (rw [Nat.zero_add]; conv => whnf) | ((first | refine wN ?_ | refine wNc ?_ | refine wA ?_ | refine wB ?_ | refine wC ?_ | refine wD ?_ | refine vA ?_ | refine vB ?_ | refine vC ?_ | refine vD ?_ | refine uA ?_ | refine uB ?_ | refine uC ?_ | refine uD ?_); conv => whnf) | ((first | apply Pick.dec | apply Pick.beq | apply Cond.dec | apply Cond.beq | apply Cond.nd | apply Pick.nd | apply Pick.mk | apply Cond.mk) <;> intro h <;> conv => whnf))
  exact EndH.mk [1] rfl rfl rfl
theorem tcloneI_ret (n : Nat) (g : Nat → List Val) (hl : n * 8 ≤ 140737488355328) : Ret Try.prog 32 [.ext 1 n g] [] (.ext 1 n g) [] := by
  rcases Nat.eq_zero_or_pos n with rfl | h0
  · exact tcloneI0 g
  · obtain ⟨m, rfl⟩ : ∃ m, n = m + 1 := ⟨n - 1, by omega⟩
    exact (tcloneI1 m g hl).lend ⟨rfl, Nat.le_refl _, Nat.le_refl _⟩ rfl
end Go.Proofs.Ytafiechoplbieaa

