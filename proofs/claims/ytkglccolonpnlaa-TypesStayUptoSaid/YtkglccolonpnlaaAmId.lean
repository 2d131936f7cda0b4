/- slices.Clone of items, tables, sections: a row of its own. Printed by wip/tools/clonegen.py. -/
import Derived.Test.YtkglccolonpnlaaAmNc
import Derived.Test.YtkglccolonpnlaaAmU2
import Derived.Test.YtkglccolonpnlaaAmIc
set_option linter.unusedVariables false
set_option linter.unusedSimpArgs false
set_option maxRecDepth 100000
namespace Go.Proofs
open Go.RowKit Go.AM
set_option maxHeartbeats 4000000 in
set_option maxRecDepth 1000000 in
theorem Try.cloneEL (ad : Addr) (c : Nat) (w : World) :
    Calls Try.prog 17 #[.slice (some ad) 0 c] w fun e w' => (∃ a', e = .returned (.slice (some a') 0 0)) ∧ Below w.heap.size w w' := by
  have q22 : ∀ (w : World) (a : Option Addr) (n c n' c' : Nat), (binOp .eql 36 (.slice a n c) (.slice none n' c')).run Try.prog w = .ok (.bool a.isNone) w := fun w a n c n' c' => Lib.run_eql_slice_nil w _ _ a n c n' c' Try.underlying36
  go_enter Try.func17, Try.ntmps17
  go_wp2
  go_ret
  exact ⟨⟨_, rfl⟩, (Below.refl _ w).alloc (Nat.le_refl _) _⟩
set_option maxHeartbeats 4000000 in
set_option maxRecDepth 1000000 in
theorem Try.cloneNL (c : Nat) (w : World) :
    Calls Try.prog 17 #[.slice none 0 c] w fun e w' => e = .returned (.slice none 0 0) ∧ Below w.heap.size w w' := by
  have q22 : ∀ (w : World) (a : Option Addr) (n c n' c' : Nat), (binOp .eql 36 (.slice a n c) (.slice none n' c')).run Try.prog w = .ok (.bool a.isNone) w := fun w a n c n' c' => Lib.run_eql_slice_nil w _ _ a n c n' c' Try.underlying36
  go_enter Try.func17, Try.ntmps17
  go_wp2
  go_ret
  exact ⟨rfl, Below.refl _ w⟩
set_option maxHeartbeats 4000000 in
set_option maxRecDepth 1000000 in
theorem Try.cloneET (ad : Addr) (c : Nat) (w : World) :
    Calls Try.prog 18 #[.slice (some ad) 0 c] w fun e w' => (∃ a', e = .returned (.slice (some a') 0 0)) ∧ Below w.heap.size w w' := by
  have q22 : ∀ (w : World) (a : Option Addr) (n c n' c' : Nat), (binOp .eql 40 (.slice a n c) (.slice none n' c')).run Try.prog w = .ok (.bool a.isNone) w := fun w a n c n' c' => Lib.run_eql_slice_nil w _ _ a n c n' c' Try.underlying40
  go_enter Try.func18, Try.ntmps18
  go_wp2
  go_ret
  exact ⟨⟨_, rfl⟩, (Below.refl _ w).alloc (Nat.le_refl _) _⟩
set_option maxHeartbeats 4000000 in
set_option maxRecDepth 1000000 in
theorem Try.cloneNT (c : Nat) (w : World) :
    Calls Try.prog 18 #[.slice none 0 c] w fun e w' => e = .returned (.slice none 0 0) ∧ Below w.heap.size w w' := by
  have q22 : ∀ (w : World) (a : Option Addr) (n c n' c' : Nat), (binOp .eql 40 (.slice a n c) (.slice none n' c')).run Try.prog w = .ok (.bool a.isNone) w := fun w a n c n' c' => Lib.run_eql_slice_nil w _ _ a n c n' c' Try.underlying40
  go_enter Try.func18, Try.ntmps18
  go_wp2
  go_ret
  exact ⟨rfl, Below.refl _ w⟩
set_option maxHeartbeats 4000000 in
set_option maxRecDepth 1000000 in
theorem Try.cloneES (ad : Addr) (c : Nat) (w : World) :
    Calls Try.prog 20 #[.slice (some ad) 0 c] w fun e w' => (∃ a', e = .returned (.slice (some a') 0 0)) ∧ Below w.heap.size w w' := by
  have q22 : ∀ (w : World) (a : Option Addr) (n c n' c' : Nat), (binOp .eql 37 (.slice a n c) (.slice none n' c')).run Try.prog w = .ok (.bool a.isNone) w := fun w a n c n' c' => Lib.run_eql_slice_nil w _ _ a n c n' c' Try.underlying37
  go_enter Try.func20, Try.ntmps20
  go_wp2
  go_ret
  exact ⟨⟨_, rfl⟩, (Below.refl _ w).alloc (Nat.le_refl _) _⟩
set_option maxHeartbeats 4000000 in
set_option maxRecDepth 1000000 in
theorem Try.cloneNS (c : Nat) (w : World) :
    Calls Try.prog 20 #[.slice none 0 c] w fun e w' => e = .returned (.slice none 0 0) ∧ Below w.heap.size w w' := by
  have q22 : ∀ (w : World) (a : Option Addr) (n c n' c' : Nat), (binOp .eql 37 (.slice a n c) (.slice none n' c')).run Try.prog w = .ok (.bool a.isNone) w := fun w a n c n' c' => Lib.run_eql_slice_nil w _ _ a n c n' c' Try.underlying37
  go_enter Try.func20, Try.ntmps20
  go_wp2
  go_ret
  exact ⟨rfl, Below.refl _ w⟩
end Go.Proofs
namespace Go.Proofs.Ytkglccolonpnlaa
open Go.AM Go.RowKit
theorem cloneLs0 (g : Nat → List Val) : Ret Try.prog 17 [.ext 23 0 g] [] .emp [] := by
  refine ⟨⟨_, _, Try.func17, by kernel_rfl, rfl⟩, fun ι φ w cs hn hs ht => ?_⟩
  have hl : cs.size = 1 := by simpa using ht.len
  have h0 := ht.rel 0 (by simp)
  have hcs : cs = #[cs.getD 0 undef] := by
    refine Array.ext (by simpa using hl) fun i hi hi' => ?_
    obtain rfl : i = 0 := by omega
    rw [Array.getD_eq_getD_getElem?, Array.getElem?_eq_getElem hi]; rfl
  rw [hcs]
  generalize cs.getD 0 undef = u at *
  have h0 : Rel ι φ (.ext 23 0 g) u := h0
  cases h0 with
  | c hc =>
    cases hc with
    | ext _ _ _ a c vals hc hl hφ h1 hr =>
      refine (Try.cloneEL a c w).mono fun e w' ⟨⟨a', he⟩, hb⟩ => ?_
      exact ⟨.slice (some a') 0 0, ι, φ, he, .refl _, Inv.below hs hb (.refl _) (fun a v ha => .inl ha), .c (.emp (some a')), hn⟩
    | extNil =>
      refine (Try.cloneNL 0 w).mono fun e w' ⟨he, hb⟩ => ?_
      exact ⟨.slice none 0 0, ι, φ, he, .refl _, Inv.below hs hb (.refl _) (fun a v ha => .inl ha), .c (.emp none), hn⟩
theorem cloneLs1 (m : Nat) (g : Nat → List Val) (hl : (m + 1) * 232 ≤ 140737488355328) : Ret Try.prog 17 [.ext 23 (m + 1) g] [] (.row 0 (m + 1)) [.row 56 23 (m + 1) g 0] := by
  have gz : (fun i => if i < 0 then (fun i => (pieces 23 0 []).getD i []) i else g (i - 0)) = g := funext fun i => if_neg (by omega)
  refine ret_of_body atCalls tok mixed Try.func17 (by kernel_rfl) rfl (k := 8) (rs := [.tmp 2]) (by kernel_rfl) (by kernel_rfl) ?_
  (conv => whnf) <;> repeat' (first | (rw [gz]; conv => whnf) | (rw [Nat.zero_add]; conv => whnf) | ((first | refine wN ?_ | refine wA ?_ | refine wB ?_ | refine wC ?_ | refine wD ?_ | refine vA ?_ | refine vB ?_ | refine vC ?_ | refine vD ?_ | refine uA ?_ | refine uB ?_ | refine uC ?_ | refine uD ?_); conv => whnf) | ((first | refine Pick.dec (fun h => ?_) (fun h => ?_) | refine Pick.beq (fun h => ?_) (fun h => ?_) | refine Cond.dec (fun h => ?_) (fun h => ?_) | refine Cond.beq (fun h => ?_) (fun h => ?_) | refine Cond.nd (fun h => ?_) (fun h => ?_) | refine Pick.nd (fun h => ?_) (fun h => ?_) | refine Pick.mk (fun h => ?_) (fun h => ?_) | refine Cond.mk (fun h => ?_) (fun h => ?_)) <;> conv => whnf))
  exact EndH.mk [1] rfl rfl rfl
theorem cloneLs2 (n : Nat) (h0 : 0 < n) (g : Nat → List Val) (hl : n * 232 ≤ 140737488355328) : Ret Try.prog 17 [.ext 23 n g] [] (.row 0 n) [.row 56 23 n g 0] := by
  obtain ⟨m, rfl⟩ : ∃ m, n = m + 1 := ⟨n - 1, by omega⟩
  exact cloneLs1 m g hl
theorem cloneTs0 (g : Nat → List Val) : Ret Try.prog 18 [.ext 2 0 g] [] .emp [] := by
  refine ⟨⟨_, _, Try.func18, by kernel_rfl, rfl⟩, fun ι φ w cs hn hs ht => ?_⟩
  have hl : cs.size = 1 := by simpa using ht.len
  have h0 := ht.rel 0 (by simp)
  have hcs : cs = #[cs.getD 0 undef] := by
    refine Array.ext (by simpa using hl) fun i hi hi' => ?_
    obtain rfl : i = 0 := by omega
    rw [Array.getD_eq_getD_getElem?, Array.getElem?_eq_getElem hi]; rfl
  rw [hcs]
  generalize cs.getD 0 undef = u at *
  have h0 : Rel ι φ (.ext 2 0 g) u := h0
  cases h0 with
  | c hc =>
    cases hc with
    | ext _ _ _ a c vals hc hl hφ h1 hr =>
      refine (Try.cloneET a c w).mono fun e w' ⟨⟨a', he⟩, hb⟩ => ?_
      exact ⟨.slice (some a') 0 0, ι, φ, he, .refl _, Inv.below hs hb (.refl _) (fun a v ha => .inl ha), .c (.emp (some a')), hn⟩
    | extNil =>
      refine (Try.cloneNT 0 w).mono fun e w' ⟨he, hb⟩ => ?_
      exact ⟨.slice none 0 0, ι, φ, he, .refl _, Inv.below hs hb (.refl _) (fun a v ha => .inl ha), .c (.emp none), hn⟩
theorem cloneTs1 (m : Nat) (g : Nat → List Val) (hl : (m + 1) * 40 ≤ 140737488355328) : Ret Try.prog 18 [.ext 2 (m + 1) g] [] (.row 0 (m + 1)) [.row 60 2 (m + 1) g 0] := by
  have gz : (fun i => if i < 0 then (fun i => (pieces 2 0 []).getD i []) i else g (i - 0)) = g := funext fun i => if_neg (by omega)
  refine ret_of_body atCalls tok mixed Try.func18 (by kernel_rfl) rfl (k := 8) (rs := [.tmp 2]) (by kernel_rfl) (by kernel_rfl) ?_
  (conv => whnf) <;> repeat' (first | (rw [gz]; conv => whnf) | (rw [Nat.zero_add]; conv => whnf) | ((first | refine wN ?_ | refine wA ?_ | refine wB ?_ | refine wC ?_ | refine wD ?_ | refine vA ?_ | refine vB ?_ | refine vC ?_ | refine vD ?_ | refine uA ?_ | refine uB ?_ | refine uC ?_ | refine uD ?_); conv => whnf) | ((first | refine Pick.dec (fun h => ?_) (fun h => ?_) | refine Pick.beq (fun h => ?_) (fun h => ?_) | refine Cond.dec (fun h => ?_) (fun h => ?_) | refine Cond.beq (fun h => ?_) (fun h => ?_) | refine Cond.nd (fun h => ?_) (fun h => ?_) | refine Pick.nd (fun h => ?_) (fun h => ?_) | refine Pick.mk (fun h => ?_) (fun h => ?_) | refine Cond.mk (fun h => ?_) (fun h => ?_)) <;> conv => whnf))
  exact EndH.mk [1] rfl rfl rfl
theorem cloneTs2 (n : Nat) (h0 : 0 < n) (g : Nat → List Val) (hl : n * 40 ≤ 140737488355328) : Ret Try.prog 18 [.ext 2 n g] [] (.row 0 n) [.row 60 2 n g 0] := by
  obtain ⟨m, rfl⟩ : ∃ m, n = m + 1 := ⟨n - 1, by omega⟩
  exact cloneTs1 m g hl
theorem cloneSs0 (g : Nat → List Val) : Ret Try.prog 20 [.ext 4 0 g] [] .emp [] := by
  refine ⟨⟨_, _, Try.func20, by kernel_rfl, rfl⟩, fun ι φ w cs hn hs ht => ?_⟩
  have hl : cs.size = 1 := by simpa using ht.len
  have h0 := ht.rel 0 (by simp)
  have hcs : cs = #[cs.getD 0 undef] := by
    refine Array.ext (by simpa using hl) fun i hi hi' => ?_
    obtain rfl : i = 0 := by omega
    rw [Array.getD_eq_getD_getElem?, Array.getElem?_eq_getElem hi]; rfl
  rw [hcs]
  generalize cs.getD 0 undef = u at *
  have h0 : Rel ι φ (.ext 4 0 g) u := h0
  cases h0 with
  | c hc =>
    cases hc with
    | ext _ _ _ a c vals hc hl hφ h1 hr =>
      refine (Try.cloneES a c w).mono fun e w' ⟨⟨a', he⟩, hb⟩ => ?_
      exact ⟨.slice (some a') 0 0, ι, φ, he, .refl _, Inv.below hs hb (.refl _) (fun a v ha => .inl ha), .c (.emp (some a')), hn⟩
    | extNil =>
      refine (Try.cloneNS 0 w).mono fun e w' ⟨he, hb⟩ => ?_
      exact ⟨.slice none 0 0, ι, φ, he, .refl _, Inv.below hs hb (.refl _) (fun a v ha => .inl ha), .c (.emp none), hn⟩
theorem cloneSs1 (m : Nat) (g : Nat → List Val) (hl : (m + 1) * 72 ≤ 140737488355328) : Ret Try.prog 20 [.ext 4 (m + 1) g] [] (.row 0 (m + 1)) [.row 39 4 (m + 1) g 0] := by
  have gz : (fun i => if i < 0 then (fun i => (pieces 4 0 []).getD i []) i else g (i - 0)) = g := funext fun i => if_neg (by omega)
  refine ret_of_body atCalls tok mixed Try.func20 (by kernel_rfl) rfl (k := 8) (rs := [.tmp 2]) (by kernel_rfl) (by kernel_rfl) ?_
  (conv => whnf) <;> repeat' (first | (rw [gz]; conv => whnf) | (rw [Nat.zero_add]; conv => whnf) | ((first | refine wN ?_ | refine wA ?_ | refine wB ?_ | refine wC ?_ | refine wD ?_ | refine vA ?_ | refine vB ?_ | refine vC ?_ | refine vD ?_ | refine uA ?_ | refine uB ?_ | refine uC ?_ | refine uD ?_); conv => whnf) | ((first | refine Pick.dec (fun h => ?_) (fun h => ?_) | refine Pick.beq (fun h => ?_) (fun h => ?_) | refine Cond.dec (fun h => ?_) (fun h => ?_) | refine Cond.beq (fun h => ?_) (fun h => ?_) | refine Cond.nd (fun h => ?_) (fun h => ?_) | refine Pick.nd (fun h => ?_) (fun h => ?_) | refine Pick.mk (fun h => ?_) (fun h => ?_) | refine Cond.mk (fun h => ?_) (fun h => ?_)) <;> conv => whnf))
  exact EndH.mk [1] rfl rfl rfl
theorem cloneSs2 (n : Nat) (h0 : 0 < n) (g : Nat → List Val) (hl : n * 72 ≤ 140737488355328) : Ret Try.prog 20 [.ext 4 n g] [] (.row 0 n) [.row 39 4 n g 0] := by
  obtain ⟨m, rfl⟩ : ∃ m, n = m + 1 := ⟨n - 1, by omega⟩
  exact cloneSs1 m g hl
end Go.Proofs.Ytkglccolonpnlaa

set_option linter.unusedVariables false
set_option linter.unusedSimpArgs false
set_option maxRecDepth 100000
namespace Go.Proofs.Ytkglccolonpnlaa
open Go.AM
theorem letter_ret (c : Int) : Ret Try.prog 55 [.int .u8 c] [] (.bool (letB c)) [] := by
  unfold letB
  refine ret_of_body atNone tok mixed Try.func55 (by kernel_rfl) rfl (k := 21) (rs := [.tmp 2]) (by kernel_rfl) (by kernel_rfl) ?_
  (conv => whnf) <;> repeat' (first | ((first | refine wN ?_ | refine wA ?_ | refine wB ?_ | refine wC ?_ | refine wD ?_ | refine vA ?_ | refine vB ?_ | refine vC ?_ | refine vD ?_ | refine uA ?_ | refine uB ?_ | refine uC ?_ | refine uD ?_); conv => whnf) | ((first | refine Pick.dec (fun h => ?_) (fun h => ?_) | refine Pick.beq (fun h => ?_) (fun h => ?_) | refine Cond.dec (fun h => ?_) (fun h => ?_) | refine Cond.beq (fun h => ?_) (fun h => ?_) | refine Cond.nd (fun h => ?_) (fun h => ?_) | refine Pick.nd (fun h => ?_) (fun h => ?_) | refine Pick.mk (fun h => ?_) (fun h => ?_) | refine Cond.mk (fun h => ?_) (fun h => ?_)) <;> conv => whnf))
  all_goals
    refine End.mk (bool_eq ?_) rfl
    rw [Bool.eq_iff_iff]
    simp
    try omega
theorem digit_ret (c : Int) : Ret Try.prog 56 [.int .u8 c] [] (.bool (digB c)) [] := by
  unfold digB
  refine ret_of_body atNone tok mixed Try.func56 (by kernel_rfl) rfl (k := 9) (rs := [.tmp 2]) (by kernel_rfl) (by kernel_rfl) ?_
  (conv => whnf) <;> repeat' (first | ((first | refine wN ?_ | refine wA ?_ | refine wB ?_ | refine wC ?_ | refine wD ?_ | refine vA ?_ | refine vB ?_ | refine vC ?_ | refine vD ?_ | refine uA ?_ | refine uB ?_ | refine uC ?_ | refine uD ?_); conv => whnf) | ((first | refine Pick.dec (fun h => ?_) (fun h => ?_) | refine Pick.beq (fun h => ?_) (fun h => ?_) | refine Cond.dec (fun h => ?_) (fun h => ?_) | refine Cond.beq (fun h => ?_) (fun h => ?_) | refine Cond.nd (fun h => ?_) (fun h => ?_) | refine Pick.nd (fun h => ?_) (fun h => ?_) | refine Pick.mk (fun h => ?_) (fun h => ?_) | refine Cond.mk (fun h => ?_) (fun h => ?_)) <;> conv => whnf))
  all_goals
    refine End.mk (bool_eq ?_) rfl
    rw [Bool.eq_iff_iff]
    simp
    try omega
theorem rname_ret (s : ByteArray) (hs63 : s.size ≤ 9223372036854775807) : Ret Try.prog 33 [.str s] [] (.bool (nameB s)) [] := by
  have hm : (s.toList == ByteArray.toList { data := #[] }) = decide (s.size = 0) := by
    rw [toList_eq]
    by_cases h : s.size = 0
    · rw [decide_eq_true h]; exact decide_eq_true (ByteArray.ext (Array.eq_empty_of_size_eq_zero h))
    · rw [decide_eq_false h]; exact decide_eq_false fun e => h (by rw [e]; rfl)
  by_cases h0 : s.size = 0
  · rw [decide_eq_true h0] at hm
    rw [show nameB s = false from if_pos (.inl h0)]
    refine ret_of_body atNone tok mixed Try.func33 (by kernel_rfl) rfl (k := 35) (rs := [.tmp 2]) (by kernel_rfl) (by kernel_rfl) ?_
    (conv => whnf) <;> repeat' (first | (rw [hm]; conv => whnf) | ((first | refine wN ?_ | refine wA ?_ | refine wB ?_ | refine wC ?_ | refine wD ?_ | refine vA ?_ | refine vB ?_ | refine vC ?_ | refine vD ?_ | refine uA ?_ | refine uB ?_ | refine uC ?_ | refine uD ?_); conv => whnf) | ((first | refine Pick.dec (fun h => ?_) (fun h => ?_) | refine Pick.beq (fun h => ?_) (fun h => ?_) | refine Cond.dec (fun h => ?_) (fun h => ?_) | refine Cond.beq (fun h => ?_) (fun h => ?_) | refine Cond.nd (fun h => ?_) (fun h => ?_) | refine Pick.nd (fun h => ?_) (fun h => ?_) | refine Pick.mk (fun h => ?_) (fun h => ?_) | refine Cond.mk (fun h => ?_) (fun h => ?_)) <;> conv => whnf))
    exact End.mk rfl rfl
  rw [decide_eq_false h0] at hm
  by_cases h1 : 32 < s.size
  · rw [show nameB s = false from if_pos (.inr (.inl h1))]
    refine ret_of_body atNone tok mixed Try.func33 (by kernel_rfl) rfl (k := 35) (rs := [.tmp 2]) (by kernel_rfl) (by kernel_rfl) ?_
    (conv => whnf) <;> repeat' (first | (rw [hm]; conv => whnf) | ((first | refine wN ?_ | refine wA ?_ | refine wB ?_ | refine wC ?_ | refine wD ?_ | refine vA ?_ | refine vB ?_ | refine vC ?_ | refine vD ?_ | refine uA ?_ | refine uB ?_ | refine uC ?_ | refine uD ?_); conv => whnf) | ((first | refine Pick.dec (fun h => ?_) (fun h => ?_) | refine Pick.beq (fun h => ?_) (fun h => ?_) | refine Cond.dec (fun h => ?_) (fun h => ?_) | refine Cond.beq (fun h => ?_) (fun h => ?_) | refine Cond.nd (fun h => ?_) (fun h => ?_) | refine Pick.nd (fun h => ?_) (fun h => ?_) | refine Pick.mk (fun h => ?_) (fun h => ?_) | refine Cond.mk (fun h => ?_) (fun h => ?_)) <;> conv => whnf))
    exact End.mk rfl rfl
  have hl := letter_ret (bt s 0)
  by_cases h2 : letB (bt s 0) = false
  · rw [show nameB s = false from if_pos (.inr (.inr h2))]
    rw [h2] at hl
    refine ret_of_body atCalls tok mixed Try.func33 (by kernel_rfl) rfl (k := 35) (rs := [.tmp 2]) (by kernel_rfl) (by kernel_rfl) ?_
    (conv => whnf) <;> repeat' (first | (rw [hm]; conv => whnf) | ((first | refine wN ?_ | refine wA ?_ | refine wB ?_ | refine wC ?_ | refine wD ?_ | refine Called.mk _ _ (hl) ?_ | refine vA ?_ | refine vB ?_ | refine vC ?_ | refine vD ?_ | refine uA ?_ | refine uB ?_ | refine uC ?_ | refine uD ?_); conv => whnf) | ((first | refine Pick.dec (fun h => ?_) (fun h => ?_) | refine Pick.beq (fun h => ?_) (fun h => ?_) | refine Cond.dec (fun h => ?_) (fun h => ?_) | refine Cond.beq (fun h => ?_) (fun h => ?_) | refine Cond.nd (fun h => ?_) (fun h => ?_) | refine Pick.nd (fun h => ?_) (fun h => ?_) | refine Pick.mk (fun h => ?_) (fun h => ?_) | refine Cond.mk (fun h => ?_) (fun h => ?_)) <;> conv => whnf))
    exact End.mk rfl rfl
  rw [show nameB s = restB s s.size 0 from if_neg (by simp only [not_or]; exact ⟨h0, h1, h2⟩)]
  have h2 : letB (bt s 0) = true := by simpa using h2
  rw [h2] at hl
  refine ret_of_body atCalls tok mixed Try.func33 (by kernel_rfl) rfl (k := 35) (rs := [.tmp 2]) (by kernel_rfl) (by kernel_rfl) ?_
  (conv => whnf) <;> repeat' (first | (rw [hm]; conv => whnf) | ((first | refine wN ?_ | refine wA ?_ | refine wB ?_ | refine wC ?_ | refine wD ?_ | refine Called.mk _ _ (hl) ?_ | refine vA ?_ | refine vB ?_ | refine vC ?_ | refine vD ?_ | refine uA ?_ | refine uB ?_ | refine uC ?_ | refine uD ?_); conv => whnf) | ((first | refine Pick.dec (fun h => ?_) (fun h => ?_) | refine Pick.beq (fun h => ?_) (fun h => ?_) | refine Cond.dec (fun h => ?_) (fun h => ?_) | refine Cond.beq (fun h => ?_) (fun h => ?_) | refine Cond.nd (fun h => ?_) (fun h => ?_) | refine Pick.nd (fun h => ?_) (fun h => ?_) | refine Pick.mk (fun h => ?_) (fun h => ?_) | refine Cond.mk (fun h => ?_) (fun h => ?_)) <;> conv => whnf))
  intro J jw js
  have key : ∀ (d k : Nat), k + d = s.size → restB s s.size 0 = restB s d k → J [.str s, .und, .und, .int .i64 (k : Int), .und, .und, .und, .und, .und, .und, .und, .und, .und, .und, .und, .und, .und, .und, .und, .und, .und, .und, .und, .und, .und, .und, .und, .und, .und, .und, .und, .und, .und, .und, .und] [] := by
    intro d
    induction d with
    | zero =>
      intro k hk he
      apply js
      conv => whnf
      refine Cond.ff (decF (by omega)) ?_
      (conv => whnf) <;> repeat' (first | ((first | refine wN ?_ | refine wA ?_ | refine wB ?_ | refine wC ?_ | refine wD ?_ | refine vA ?_ | refine vB ?_ | refine vC ?_ | refine vD ?_ | refine uA ?_ | refine uB ?_ | refine uC ?_ | refine uD ?_); conv => whnf) | ((first | refine Pick.dec (fun h => ?_) (fun h => ?_) | refine Pick.beq (fun h => ?_) (fun h => ?_) | refine Cond.dec (fun h => ?_) (fun h => ?_) | refine Cond.beq (fun h => ?_) (fun h => ?_) | refine Cond.nd (fun h => ?_) (fun h => ?_) | refine Pick.nd (fun h => ?_) (fun h => ?_) | refine Pick.mk (fun h => ?_) (fun h => ?_) | refine Cond.mk (fun h => ?_) (fun h => ?_)) <;> conv => whnf))
      exact End.mk (bool_eq he.symm) rfl
    | succ d ih =>
      intro k hk he
      have e1 : IntKind.i64.wrap ((k : Int) + 1) = ((k + 1 : Nat) : Int) := by rw [wi64_id (by omega) (by omega)]; omega
      have l1 := letter_ret (bt s (k : Int))
      have l2 := digit_ret (bt s (k : Int))
      have he' : restB s s.size 0 = ((letB (bt s (k : Int)) || digB (bt s (k : Int))) && restB s d (k + 1)) := he
      by_cases a1 : letB (bt s (k : Int)) = true
      · rw [a1] at l1 he'
        apply js
        conv => whnf
        refine Cond.tt (decT (by omega)) ?_
        (conv => whnf) <;> repeat' (first | ((first | refine wN ?_ | refine wA ?_ | refine wB ?_ | refine wC ?_ | refine wD ?_ | refine Called.mk _ _ (l1) ?_ | refine Called.mk _ _ (l2) ?_ | refine vA ?_ | refine vB ?_ | refine vC ?_ | refine vD ?_ | refine uA ?_ | refine uB ?_ | refine uC ?_ | refine uD ?_); conv => whnf) | ((first | refine Pick.dec (fun h => ?_) (fun h => ?_) | refine Pick.beq (fun h => ?_) (fun h => ?_) | refine Cond.dec (fun h => ?_) (fun h => ?_) | refine Cond.beq (fun h => ?_) (fun h => ?_) | refine Cond.nd (fun h => ?_) (fun h => ?_) | refine Pick.nd (fun h => ?_) (fun h => ?_) | refine Pick.mk (fun h => ?_) (fun h => ?_) | refine Cond.mk (fun h => ?_) (fun h => ?_)) <;> conv => whnf))
        rw [e1]
        apply jw [] [true, false, false, true] _ _ (by decide)
        exact ih (k + 1) (by omega) (by simpa using he')
      · have a1 : letB (bt s (k : Int)) = false := by simpa using a1
        by_cases a2 : digB (bt s (k : Int)) = true
        · rw [a1] at l1 he'
          rw [a2] at l2 he'
          apply js
          conv => whnf
          refine Cond.tt (decT (by omega)) ?_
          (conv => whnf) <;> repeat' (first | ((first | refine wN ?_ | refine wA ?_ | refine wB ?_ | refine wC ?_ | refine wD ?_ | refine Called.mk _ _ (l1) ?_ | refine Called.mk _ _ (l2) ?_ | refine vA ?_ | refine vB ?_ | refine vC ?_ | refine vD ?_ | refine uA ?_ | refine uB ?_ | refine uC ?_ | refine uD ?_); conv => whnf) | ((first | refine Pick.dec (fun h => ?_) (fun h => ?_) | refine Pick.beq (fun h => ?_) (fun h => ?_) | refine Cond.dec (fun h => ?_) (fun h => ?_) | refine Cond.beq (fun h => ?_) (fun h => ?_) | refine Cond.nd (fun h => ?_) (fun h => ?_) | refine Pick.nd (fun h => ?_) (fun h => ?_) | refine Pick.mk (fun h => ?_) (fun h => ?_) | refine Cond.mk (fun h => ?_) (fun h => ?_)) <;> conv => whnf))
          rw [e1]
          apply jw [] [true, false, false, true] _ _ (by decide)
          exact ih (k + 1) (by omega) (by simpa using he')
        · have a2 : digB (bt s (k : Int)) = false := by simpa using a2
          rw [a1] at l1 he'
          rw [a2] at l2 he'
          apply js
          conv => whnf
          refine Cond.tt (decT (by omega)) ?_
          (conv => whnf) <;> repeat' (first | ((first | refine wN ?_ | refine wA ?_ | refine wB ?_ | refine wC ?_ | refine wD ?_ | refine Called.mk _ _ (l1) ?_ | refine Called.mk _ _ (l2) ?_ | refine vA ?_ | refine vB ?_ | refine vC ?_ | refine vD ?_ | refine uA ?_ | refine uB ?_ | refine uC ?_ | refine uD ?_); conv => whnf) | ((first | refine Pick.dec (fun h => ?_) (fun h => ?_) | refine Pick.beq (fun h => ?_) (fun h => ?_) | refine Cond.dec (fun h => ?_) (fun h => ?_) | refine Cond.beq (fun h => ?_) (fun h => ?_) | refine Cond.nd (fun h => ?_) (fun h => ?_) | refine Pick.nd (fun h => ?_) (fun h => ?_) | refine Pick.mk (fun h => ?_) (fun h => ?_) | refine Cond.mk (fun h => ?_) (fun h => ?_)) <;> conv => whnf))
          exact End.mk (bool_eq he'.symm) rfl
  apply jw [] [true, false, false, true] _ _ (by decide)
  exact key s.size 0 (by omega) rfl
end Go.Proofs.Ytkglccolonpnlaa

