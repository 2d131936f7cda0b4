/- aggtree: Len, column, wrong, Insert. -/
import Derived.Test.YtafiechoplbieaaAmJk
import Derived.Test.YtafiechoplbieaaAmTy
import Derived.Test.YtafiechoplbieaaAmJg
set_option linter.unusedVariables false
set_option linter.unusedSimpArgs false
set_option maxRecDepth 100000
namespace Go.Proofs.Ytafiechoplbieaa
open Go.AM
section
variable {t mb : Nat} {M : Nat → Blk} {x : Tst} {T : Tr}
theorem none_c (N : Nat) (h : TM t mb M x) : CallC Try.prog 33 [.ptr t 0] N M (.bool false) [] [t] N := by
  obtain ⟨lk, ht⟩ := h.tree
  refine CallC.of_retS N [] [t] (fun b x hx => by simp at hx) (fun b hb => by simp at hb) (.inl rfl) fun H' B hag => ?_
  replace ht := (hag t (by simp)).trans ht
  refine RetS.of_body tok mixed Try.func33 (by kernel_rfl) rfl (k := 12) (rs := [.tmp 2]) (by kernel_rfl) (by kernel_rfl) ?_; intro hN
  (conv => whnf) <;> repeat' (first | ((first | refine gA ?_ | refine wN ?_ | refine nA ?_ | refine fA ?_ | refine fB ?_ | refine wC ?_ | refine wD ?_ | refine fdA ?_ | refine fdB ?_ | refine vC ?_ | refine vD ?_ | refine feA ?_ | refine feB ?_ | refine uC ?_ | refine uD ?_); conv => whnf) | ((first | refine Pick.dec (fun h => ?_) (fun h => ?_) | refine Pick.beq (fun h => ?_) (fun h => ?_) | refine CondF.dec (fun h => ?_) (fun h => ?_) | refine CondF.beq (fun h => ?_) (fun h => ?_) | refine CondF.nb (fun h => ?_) (fun h => ?_) | refine CondF.nd (fun h => ?_) (fun h => ?_) | refine Pick.nd (fun h => ?_) (fun h => ?_) | refine Pick.mk (fun h => ?_) (fun h => ?_) | refine CondF.mk (fun h => ?_) (fun h => ?_)) <;> conv => whnf))
  exact endF rfl (Less.refl _)
theorem len_c (N : Nat) (h : TM t mb M x) : CallC Try.prog 10 [.ptr t 0] N M (.int .i64 (x.by_.length : Int)) [] [t, mb] N := by
  refine CallC.of_retS N [] [t, mb] (fun b x hx => by simp at hx) (fun b hb => by simp at hb) (.inl rfl) fun H' B hag => ?_
  obtain ⟨lk, ht⟩ := h.tree
  replace ht := (hag t (by simp)).trans ht
  have hm := (hag mb (by simp)).trans h.map
  have hnone : CallC Try.prog 33 [.ptr t 0] B H' (.bool false) [] [t] B := by
    refine CallC.of_retS B [] [t] (fun b x hx => by simp at hx) (fun b hb => by simp at hb) (.inl rfl) fun H2 B2 hag2 => ?_
    replace ht := (hag2 t (by simp)).trans ht
    refine RetS.of_body tok mixed Try.func33 (by kernel_rfl) rfl (k := 12) (rs := [.tmp 2]) (by kernel_rfl) (by kernel_rfl) ?_; intro hN
    (conv => whnf) <;> repeat' (first | ((first | refine gA ?_ | refine wN ?_ | refine nA ?_ | refine fA ?_ | refine fB ?_ | refine wC ?_ | refine wD ?_ | refine fdA ?_ | refine fdB ?_ | refine vC ?_ | refine vD ?_ | refine feA ?_ | refine feB ?_ | refine uC ?_ | refine uD ?_); conv => whnf) | ((first | refine Pick.dec (fun h => ?_) (fun h => ?_) | refine Pick.beq (fun h => ?_) (fun h => ?_) | refine CondF.dec (fun h => ?_) (fun h => ?_) | refine CondF.beq (fun h => ?_) (fun h => ?_) | refine CondF.nb (fun h => ?_) (fun h => ?_) | refine CondF.nd (fun h => ?_) (fun h => ?_) | refine Pick.nd (fun h => ?_) (fun h => ?_) | refine Pick.mk (fun h => ?_) (fun h => ?_) | refine CondF.mk (fun h => ?_) (fun h => ?_)) <;> conv => whnf))
    exact endF rfl (Less.refl _)
  refine RetS.of_body tok mixed Try.func10 (by kernel_rfl) rfl (k := 10) (rs := [.tmp 2]) (by kernel_rfl) (by kernel_rfl) ?_; intro hN
  (conv => whnf) <;> repeat' (first | ((first | refine gA ?_ | refine wN ?_ | refine nA ?_ | refine fA ?_ | refine fB ?_ | refine wC ?_ | refine wD ?_ | refine CalledS.det (CalledF.mk _ _ _ _ (hnone) ?_) | refine CalledF.mk _ _ _ _ (hnone) ?_ | refine fdA ?_ | refine fdB ?_ | refine vC ?_ | refine vD ?_ | refine feA ?_ | refine feB ?_ | refine uC ?_ | refine uD ?_); conv => whnf) | ((first | refine Pick.dec (fun h => ?_) (fun h => ?_) | refine Pick.beq (fun h => ?_) (fun h => ?_) | refine CondF.dec (fun h => ?_) (fun h => ?_) | refine CondF.beq (fun h => ?_) (fun h => ?_) | refine CondF.nb (fun h => ?_) (fun h => ?_) | refine CondF.nd (fun h => ?_) (fun h => ?_) | refine Pick.nd (fun h => ?_) (fun h => ?_) | refine Pick.mk (fun h => ?_) (fun h => ?_) | refine CondF.mk (fun h => ?_) (fun h => ?_)) <;> conv => whnf))
  exact endF (by simp [encB]) (Less.refl _)
theorem column_c (N : Nat) (h : TM t mb M x) (c : Int) : CallC Try.prog 36 [.ptr t 0, .int .i64 c] N M (.bool (decide (0 ≤ c ∧ c < x.sc.length))) [] [t] N := by
  obtain ⟨lk, ht⟩ := h.tree
  refine CallC.of_retS N [] [t] (fun b x hx => by simp at hx) (fun b hb => by simp at hb) (.inl rfl) fun H' B hag => ?_
  replace ht := (hag t (by simp)).trans ht
  unfold eL at ht
  by_cases h0 : 0 ≤ c
  · refine RetS.of_body tok mixed Try.func36 (by kernel_rfl) rfl (k := 16) (rs := [.tmp 4]) (by kernel_rfl) (by kernel_rfl) ?_; intro hN
    (conv => whnf) <;> repeat' (first | ((first | refine gA ?_ | refine wN ?_ | refine nA ?_ | refine fA ?_ | refine fB ?_ | refine wC ?_ | refine wD ?_ | refine fdA ?_ | refine fdB ?_ | refine vC ?_ | refine vD ?_ | refine feA ?_ | refine feB ?_ | refine uC ?_ | refine uD ?_); conv => whnf) | ((first | refine Pick.dec (fun h => ?_) (fun h => ?_) | refine Pick.beq (fun h => ?_) (fun h => ?_) | refine CondF.dec (fun h => ?_) (fun h => ?_) | refine CondF.beq (fun h => ?_) (fun h => ?_) | refine CondF.nb (fun h => ?_) (fun h => ?_) | refine CondF.nd (fun h => ?_) (fun h => ?_) | refine Pick.nd (fun h => ?_) (fun h => ?_) | refine Pick.mk (fun h => ?_) (fun h => ?_) | refine CondF.mk (fun h => ?_) (fun h => ?_)) <;> conv => whnf))
    all_goals exact endF (bool_eq (by simp [h0])) (Less.refl _)
  · refine RetS.of_body tok mixed Try.func36 (by kernel_rfl) rfl (k := 16) (rs := [.tmp 4]) (by kernel_rfl) (by kernel_rfl) ?_; intro hN
    (conv => whnf) <;> repeat' (first | ((first | refine gA ?_ | refine wN ?_ | refine nA ?_ | refine fA ?_ | refine fB ?_ | refine wC ?_ | refine wD ?_ | refine fdA ?_ | refine fdB ?_ | refine vC ?_ | refine vD ?_ | refine feA ?_ | refine feB ?_ | refine uC ?_ | refine uD ?_); conv => whnf) | ((first | refine Pick.dec (fun h => ?_) (fun h => ?_) | refine Pick.beq (fun h => ?_) (fun h => ?_) | refine CondF.dec (fun h => ?_) (fun h => ?_) | refine CondF.beq (fun h => ?_) (fun h => ?_) | refine CondF.nb (fun h => ?_) (fun h => ?_) | refine CondF.nd (fun h => ?_) (fun h => ?_) | refine Pick.nd (fun h => ?_) (fun h => ?_) | refine Pick.mk (fun h => ?_) (fun h => ?_) | refine CondF.mk (fun h => ?_) (fun h => ?_)) <;> conv => whnf))
    all_goals exact endF (bool_eq (by simp [h0])) (Less.refl _)
/-- what is wrong with an id and a place -/
def wrongE (x : Tst) (k id : Int) : Int :=
  if id < 1 ∨ 9007199254740992 < id then 1 else if (blook id x.by_).isSome then 5 else if 1024 ≤ x.by_.length then 6 else if k < 0 ∨ (x.by_.length : Int) < k then 1 else 0
theorem wrong_s (N : Nat) (h : TM t mb M x) (k id : Int) (hk : 0 < (1 : Int)) : RetS Try.prog 34 [.ptr t 0, .int .i64 k, .int .i64 id] N M fun v _ M' => v = .int .i64 (wrongE x k id) ∧ M' = M := by
  obtain ⟨lk, ht⟩ := h.tree
  have hm := h.map
  have hf := mfind_encB id x.by_
  unfold wrongE
  by_cases h1 : id < 1
  · rw [if_pos (.inl h1)]
    refine RetS.of_body tok mixed Try.func34 (by kernel_rfl) rfl (k := 36) (rs := [.tmp 6]) (by kernel_rfl) (by kernel_rfl) ?_; intro hN
    (conv => whnf) <;> repeat' (first | ((first | refine gA ?_ | refine wN ?_ | refine nA ?_ | refine fA ?_ | refine fB ?_ | refine wC ?_ | refine wD ?_ | refine fdA ?_ | refine fdB ?_ | refine vC ?_ | refine vD ?_ | refine feA ?_ | refine feB ?_ | refine uC ?_ | refine uD ?_); conv => whnf) | ((first | refine Pick.dec (fun h => ?_) (fun h => ?_) | refine Pick.beq (fun h => ?_) (fun h => ?_) | refine CondF.dec (fun h => ?_) (fun h => ?_) | refine CondF.beq (fun h => ?_) (fun h => ?_) | refine CondF.nb (fun h => ?_) (fun h => ?_) | refine CondF.nd (fun h => ?_) (fun h => ?_) | refine Pick.nd (fun h => ?_) (fun h => ?_) | refine Pick.mk (fun h => ?_) (fun h => ?_) | refine CondF.mk (fun h => ?_) (fun h => ?_)) <;> conv => whnf))
    exact .mk N _ ⟨rfl, rfl⟩ (Less.refl _) (Nat.le_refl _) (Nat.le_refl _)
  by_cases h2 : id > 9007199254740992
  · rw [if_pos (.inr h2)]
    refine RetS.of_body tok mixed Try.func34 (by kernel_rfl) rfl (k := 36) (rs := [.tmp 6]) (by kernel_rfl) (by kernel_rfl) ?_; intro hN
    (conv => whnf) <;> repeat' (first | ((first | refine gA ?_ | refine wN ?_ | refine nA ?_ | refine fA ?_ | refine fB ?_ | refine wC ?_ | refine wD ?_ | refine fdA ?_ | refine fdB ?_ | refine vC ?_ | refine vD ?_ | refine feA ?_ | refine feB ?_ | refine uC ?_ | refine uD ?_); conv => whnf) | ((first | refine Pick.dec (fun h => ?_) (fun h => ?_) | refine Pick.beq (fun h => ?_) (fun h => ?_) | refine CondF.dec (fun h => ?_) (fun h => ?_) | refine CondF.beq (fun h => ?_) (fun h => ?_) | refine CondF.nb (fun h => ?_) (fun h => ?_) | refine CondF.nd (fun h => ?_) (fun h => ?_) | refine Pick.nd (fun h => ?_) (fun h => ?_) | refine Pick.mk (fun h => ?_) (fun h => ?_) | refine CondF.mk (fun h => ?_) (fun h => ?_)) <;> conv => whnf))
    exact .mk N _ ⟨rfl, rfl⟩ (Less.refl _) (Nat.le_refl _) (Nat.le_refl _)
  rw [if_neg (by omega)]
  cases hb : blook id x.by_ with
  | some p =>
    rw [hb] at hf
    have hf : mfind [.i .i64 id] (encB x.by_) = some [.ptr p 0] := hf
    refine RetS.of_body tok mixed Try.func34 (by kernel_rfl) rfl (k := 36) (rs := [.tmp 6]) (by kernel_rfl) (by kernel_rfl) ?_; intro hN
    (conv => whnf) <;> repeat' (first | ((conv => arg 1; whnf); rw [hf]; conv => whnf) | ((first | refine gA ?_ | refine wN ?_ | refine nA ?_ | refine fA ?_ | refine fB ?_ | refine wC ?_ | refine wD ?_ | refine fdA ?_ | refine fdB ?_ | refine vC ?_ | refine vD ?_ | refine feA ?_ | refine feB ?_ | refine uC ?_ | refine uD ?_); conv => whnf) | ((first | refine Pick.dec (fun h => ?_) (fun h => ?_) | refine Pick.beq (fun h => ?_) (fun h => ?_) | refine CondF.dec (fun h => ?_) (fun h => ?_) | refine CondF.beq (fun h => ?_) (fun h => ?_) | refine CondF.nb (fun h => ?_) (fun h => ?_) | refine CondF.nd (fun h => ?_) (fun h => ?_) | refine Pick.nd (fun h => ?_) (fun h => ?_) | refine Pick.mk (fun h => ?_) (fun h => ?_) | refine CondF.mk (fun h => ?_) (fun h => ?_)) <;> conv => whnf))
    exact .mk N _ ⟨rfl, rfl⟩ (Less.refl _) (Nat.le_refl _) (Nat.le_refl _)
  | none =>
    rw [hb] at hf
    have hf : mfind [.i .i64 id] (encB x.by_) = none := hf
    by_cases h3 : (x.by_.length : Int) ≥ 1024
    · rw [if_neg (by simp), if_pos (by omega)]
      refine RetS.of_body tok mixed Try.func34 (by kernel_rfl) rfl (k := 36) (rs := [.tmp 6]) (by kernel_rfl) (by kernel_rfl) ?_; intro hN
      (conv => whnf) <;> repeat' (first | ((conv => arg 1; whnf); rw [hf]; conv => whnf) | ((first | refine gA ?_ | refine wN ?_ | refine nA ?_ | refine fA ?_ | refine fB ?_ | refine wC ?_ | refine wD ?_ | refine CalledS.det (CalledF.mk _ _ _ _ (len_c _ h) ?_) | refine CalledF.mk _ _ _ _ (len_c _ h) ?_ | refine fdA ?_ | refine fdB ?_ | refine vC ?_ | refine vD ?_ | refine feA ?_ | refine feB ?_ | refine uC ?_ | refine uD ?_); conv => whnf) | ((first | refine Pick.dec (fun h => ?_) (fun h => ?_) | refine Pick.beq (fun h => ?_) (fun h => ?_) | refine CondF.dec (fun h => ?_) (fun h => ?_) | refine CondF.beq (fun h => ?_) (fun h => ?_) | refine CondF.nb (fun h => ?_) (fun h => ?_) | refine CondF.nd (fun h => ?_) (fun h => ?_) | refine Pick.nd (fun h => ?_) (fun h => ?_) | refine Pick.mk (fun h => ?_) (fun h => ?_) | refine CondF.mk (fun h => ?_) (fun h => ?_)) <;> conv => whnf))
      exact .mk N _ ⟨rfl, rfl⟩ (Less.refl _) (Nat.le_refl _) (Nat.le_refl _)
    · rw [if_neg (by simp), if_neg (by omega)]
      by_cases h4 : k < 0
      · rw [if_pos (.inl h4)]
        refine RetS.of_body tok mixed Try.func34 (by kernel_rfl) rfl (k := 36) (rs := [.tmp 6]) (by kernel_rfl) (by kernel_rfl) ?_; intro hN
        (conv => whnf) <;> repeat' (first | ((conv => arg 1; whnf); rw [hf]; conv => whnf) | ((first | refine gA ?_ | refine wN ?_ | refine nA ?_ | refine fA ?_ | refine fB ?_ | refine wC ?_ | refine wD ?_ | refine CalledS.det (CalledF.mk _ _ _ _ (len_c _ h) ?_) | refine CalledF.mk _ _ _ _ (len_c _ h) ?_ | refine fdA ?_ | refine fdB ?_ | refine vC ?_ | refine vD ?_ | refine feA ?_ | refine feB ?_ | refine uC ?_ | refine uD ?_); conv => whnf) | ((first | refine Pick.dec (fun h => ?_) (fun h => ?_) | refine Pick.beq (fun h => ?_) (fun h => ?_) | refine CondF.dec (fun h => ?_) (fun h => ?_) | refine CondF.beq (fun h => ?_) (fun h => ?_) | refine CondF.nb (fun h => ?_) (fun h => ?_) | refine CondF.nd (fun h => ?_) (fun h => ?_) | refine Pick.nd (fun h => ?_) (fun h => ?_) | refine Pick.mk (fun h => ?_) (fun h => ?_) | refine CondF.mk (fun h => ?_) (fun h => ?_)) <;> conv => whnf))
        exact .mk N _ ⟨rfl, rfl⟩ (Less.refl _) (Nat.le_refl _) (Nat.le_refl _)
      by_cases h5 : k > (x.by_.length : Int)
      · rw [if_pos (.inr h5)]
        refine RetS.of_body tok mixed Try.func34 (by kernel_rfl) rfl (k := 36) (rs := [.tmp 6]) (by kernel_rfl) (by kernel_rfl) ?_; intro hN
        (conv => whnf) <;> repeat' (first | ((conv => arg 1; whnf); rw [hf]; conv => whnf) | ((first | refine gA ?_ | refine wN ?_ | refine nA ?_ | refine fA ?_ | refine fB ?_ | refine wC ?_ | refine wD ?_ | refine CalledS.det (CalledF.mk _ _ _ _ (len_c _ h) ?_) | refine CalledF.mk _ _ _ _ (len_c _ h) ?_ | refine fdA ?_ | refine fdB ?_ | refine vC ?_ | refine vD ?_ | refine feA ?_ | refine feB ?_ | refine uC ?_ | refine uD ?_); conv => whnf) | ((first | refine Pick.dec (fun h => ?_) (fun h => ?_) | refine Pick.beq (fun h => ?_) (fun h => ?_) | refine CondF.dec (fun h => ?_) (fun h => ?_) | refine CondF.beq (fun h => ?_) (fun h => ?_) | refine CondF.nb (fun h => ?_) (fun h => ?_) | refine CondF.nd (fun h => ?_) (fun h => ?_) | refine Pick.nd (fun h => ?_) (fun h => ?_) | refine Pick.mk (fun h => ?_) (fun h => ?_) | refine CondF.mk (fun h => ?_) (fun h => ?_)) <;> conv => whnf))
        exact .mk N _ ⟨rfl, rfl⟩ (Less.refl _) (Nat.le_refl _) (Nat.le_refl _)
      · rw [if_neg (by omega)]
        refine RetS.of_body tok mixed Try.func34 (by kernel_rfl) rfl (k := 36) (rs := [.tmp 6]) (by kernel_rfl) (by kernel_rfl) ?_; intro hN
        (conv => whnf) <;> repeat' (first | ((conv => arg 1; whnf); rw [hf]; conv => whnf) | ((first | refine gA ?_ | refine wN ?_ | refine nA ?_ | refine fA ?_ | refine fB ?_ | refine wC ?_ | refine wD ?_ | refine CalledS.det (CalledF.mk _ _ _ _ (len_c _ h) ?_) | refine CalledF.mk _ _ _ _ (len_c _ h) ?_ | refine fdA ?_ | refine fdB ?_ | refine vC ?_ | refine vD ?_ | refine feA ?_ | refine feB ?_ | refine uC ?_ | refine uD ?_); conv => whnf) | ((first | refine Pick.dec (fun h => ?_) (fun h => ?_) | refine Pick.beq (fun h => ?_) (fun h => ?_) | refine CondF.dec (fun h => ?_) (fun h => ?_) | refine CondF.beq (fun h => ?_) (fun h => ?_) | refine CondF.nb (fun h => ?_) (fun h => ?_) | refine CondF.nd (fun h => ?_) (fun h => ?_) | refine Pick.nd (fun h => ?_) (fun h => ?_) | refine Pick.mk (fun h => ?_) (fun h => ?_) | refine CondF.mk (fun h => ?_) (fun h => ?_)) <;> conv => whnf))
        exact .mk N _ ⟨rfl, rfl⟩ (Less.refl _) (Nat.le_refl _) (Nat.le_refl _)
end
end Go.Proofs.Ytafiechoplbieaa

set_option linter.unusedVariables false
set_option linter.unusedSimpArgs false
set_option maxRecDepth 100000
namespace Go.Proofs.Ytafiechoplbieaa
open Go.AM
section
variable {t mb : Nat} {M : Nat → Blk} {x : Tst} {T : Tr}
theorem TM.more (h : TM t mb M x) {M1 : Nat → Blk} {p b : Nat} (r : Rec) (vs : List Vl) (fp : M p = .gone) (fb : M b = .gone) (fv : 0 < x.sc.length → M r.vk = .gone) (em : M1 mb = .pmap false [.i .i64] (encB (x.by_ ++ [(r.id, p)]))) (ep : M1 p = .cells (recC x b r)) (eb : M1 b = sumB r.sums) (ev : 0 < x.sc.length → M1 r.vk = valB vs)
    (eo : ∀ q, M q ≠ .gone → q ≠ mb → M1 q = M q) (hs : r.sums.length = x.sc.length) (hvs : vs.length = x.sc.length) : TM t mb M1 (x.more p r b vs) := by
  obtain ⟨lk, ht⟩ := h.tree
  have dp : ∀ q, x.dom q → q ≠ p := fun q hq e => by have := h.node q hq; rw [e, fp] at this; cases this
  have db : ∀ q, x.dom q → x.sb q ≠ b := fun q hq e => by have := h.sums q hq; rw [e, fb] at this; cases this
  have dv : ∀ q, x.dom q → 0 < x.sc.length → (x.nd q).vk ≠ r.vk := fun q hq h0 e => by have := h.vals q hq h0; rw [e, fv h0] at this; cases this
  have nd : ∀ q, x.dom q → (x.more p r b vs).nd q = x.nd q := fun q hq => more_nd (dp q hq)
  have sb : ∀ q, x.dom q → (x.more p r b vs).sb q = x.sb q := fun q hq => if_neg (dp q hq)
  have sbp : (x.more p r b vs).sb p = b := if_pos rfl
  have ndp : (x.more p r b vs).nd p = r := more_at
  have vl : ∀ k, (x.more p r b vs).vals k = if k = r.vk then vs else x.vals k := fun _ => rfl
  refine ⟨⟨lk, ?_⟩, em, fun q hq => ?_, fun q hq => ?_, fun q hq => ?_, fun q hq h0 => ?_, fun q hq => ?_, fun q q' hq hq' e => ?_, fun q q' hq hq' h0 e => ?_, fun q hq e => ?_, h.small⟩
  · rw [eo t (by rw [ht]; simp) h.ntm]; exact ht
  · rcases hq with rfl | hq
    · rw [sbp, ndp]; exact ep
    · rw [sb q hq, nd q hq, eo q (by rw [h.node q hq]; simp) (h.npm hq)]; exact h.node q hq
  · rcases hq with rfl | hq
    · rw [sbp, ndp]; exact eb
    · rw [sb q hq, nd q hq, eo _ (by rw [h.sums q hq]; simp) (h.nsm hq)]; exact h.sums q hq
  · rcases hq with rfl | hq
    · rw [ndp]; exact hs
    · rw [nd q hq]; exact h.slen q hq
  · rcases hq with rfl | hq
    · rw [ndp, vl, if_pos rfl]; exact ev h0
    · rw [nd q hq, vl, if_neg (dv q hq h0), eo _ (by rw [h.vals q hq h0]; simp) (h.nvm hq h0)]; exact h.vals q hq h0
  · rcases hq with rfl | hq
    · rw [ndp, vl, if_pos rfl]; exact hvs
    · rw [nd q hq, vl]
      by_cases e : (x.nd q).vk = r.vk
      · rw [if_pos e]; exact hvs
      · rw [if_neg e]; exact h.vlen q hq
  · rcases hq with rfl | hq <;> rcases hq' with rfl | hq'
    · rfl
    · rw [sbp, sb q' hq'] at e; exact absurd e.symm (db q' hq')
    · rw [sbp, sb q hq] at e; exact absurd e (db q hq)
    · rw [sb q hq, sb q' hq'] at e; exact h.sbi q q' hq hq' e
  · rcases hq with rfl | hq <;> rcases hq' with rfl | hq'
    · rfl
    · rw [ndp, nd q' hq'] at e; exact absurd e.symm (dv q' hq' h0)
    · rw [ndp, nd q hq] at e; exact absurd e (dv q hq h0)
    · rw [nd q hq, nd q' hq'] at e; exact h.vki q q' hq hq' h0 e
  · rcases hq with rfl | hq
    · subst e; rw [ht] at fp; cases fp
    · exact h.tn q hq e
/-- what Insert answers -/
def insE (x : Tst) (k id : Int) (n : Nat) : Int := if n = x.sc.length then wrongE x k id else 1
theorem row_le {e sz n pr : Nat} {g g' : Nat → List Val} (h : ∀ i, i < n → g' i = g i) : RowLe (.row e sz n g' pr) (.row e sz n g pr) := ⟨e, sz, n, g, g', pr, rfl, rfl, h⟩
theorem insert_bad (N : Nat) (h : TM t mb M x) (k id : Int) (n : Nat) (g : Nat → List Val) (hb : insE x k id n ≠ 0) (hn : n ≤ 9223372036854775807) : RetS Try.prog 9 [.ptr t 0, .int .i64 k, .int .i64 id, .ext 10 n g] N M fun v _ M' => v = .int .i64 (insE x k id n) ∧ M' = M := by
  obtain ⟨lk, ht⟩ := h.tree
  have hs := h.small
  unfold eL at ht
  unfold insE at hb ⊢
  by_cases h1 : n = x.sc.length
  · rw [if_pos h1] at hb ⊢
    have h1' : (n : Int) = (x.sc.length : Int) := by rw [h1]
    refine RetS.of_body tok mixed Try.func9 (by kernel_rfl) rfl (k := 46) (rs := [.tmp 8]) (by kernel_rfl) (by kernel_rfl) ?_; intro hN
    (conv => whnf) <;> repeat' (first | (refine CalledS.post _ (wrong_s _ h k id (by decide)) ?_; rintro _ N1 M1 ⟨rfl, rfl⟩ l1; conv => whnf) | ((first | refine gA ?_ | refine wN ?_ | refine nA ?_ | refine fA ?_ | refine fB ?_ | refine wC ?_ | refine wD ?_ | refine CalledS.det (CalledF.mk _ _ _ _ (none_c _ h) ?_) | refine CalledF.mk _ _ _ _ (none_c _ h) ?_ | refine fdA ?_ | refine fdB ?_ | refine vC ?_ | refine vD ?_ | refine feA ?_ | refine feB ?_ | refine uC ?_ | refine uD ?_); conv => whnf) | ((first | refine Pick.dec (fun h => ?_) (fun h => ?_) | refine Pick.beq (fun h => ?_) (fun h => ?_) | refine CondF.dec (fun h => ?_) (fun h => ?_) | refine CondF.beq (fun h => ?_) (fun h => ?_) | refine CondF.nb (fun h => ?_) (fun h => ?_) | refine CondF.nd (fun h => ?_) (fun h => ?_) | refine Pick.nd (fun h => ?_) (fun h => ?_) | refine Pick.mk (fun h => ?_) (fun h => ?_) | refine CondF.mk (fun h => ?_) (fun h => ?_)) <;> conv => whnf))
    all_goals first
      | exact .mk _ _ ⟨rfl, rfl⟩ (Less.refl _) (by omega) (Nat.le_refl _)
      | (exfalso; simp_all; done)
  · rw [if_neg h1] at hb ⊢
    have h1' : (n : Int) ≠ (x.sc.length : Int) := by omega
    refine RetS.of_body tok mixed Try.func9 (by kernel_rfl) rfl (k := 46) (rs := [.tmp 8]) (by kernel_rfl) (by kernel_rfl) ?_; intro hN
    (conv => whnf) <;> repeat' (first | ((first | refine gA ?_ | refine wN ?_ | refine nA ?_ | refine fA ?_ | refine fB ?_ | refine wC ?_ | refine wD ?_ | refine CalledS.det (CalledF.mk _ _ _ _ (none_c _ h) ?_) | refine CalledF.mk _ _ _ _ (none_c _ h) ?_ | refine fdA ?_ | refine fdB ?_ | refine vC ?_ | refine vD ?_ | refine feA ?_ | refine feB ?_ | refine uC ?_ | refine uD ?_); conv => whnf) | ((first | refine Pick.dec (fun h => ?_) (fun h => ?_) | refine Pick.beq (fun h => ?_) (fun h => ?_) | refine CondF.dec (fun h => ?_) (fun h => ?_) | refine CondF.beq (fun h => ?_) (fun h => ?_) | refine CondF.nb (fun h => ?_) (fun h => ?_) | refine CondF.nd (fun h => ?_) (fun h => ?_) | refine Pick.nd (fun h => ?_) (fun h => ?_) | refine Pick.mk (fun h => ?_) (fun h => ?_) | refine CondF.mk (fun h => ?_) (fun h => ?_)) <;> conv => whnf))
    all_goals first
      | exact .mk _ _ ⟨rfl, rfl⟩ (Less.refl _) (by omega) (Nat.le_refl _)
theorem mov_more {y : Tst} {Mx M' : Nat → Blk} {p b : Nat} {r : Rec} {vs : List Vl} (h : TM t mb M x) (K : Keep (x.more p r b vs) y) (f : Fr t mb (x.more p r b vs) Mx M') (hy : TM t mb M' y) (fp : M p = .gone) (fb : M b = .gone) (fv : 0 < x.sc.length → M r.vk = .gone) (eo : ∀ q, M q ≠ .gone → q ≠ mb → Mx q = M q) : Mov t mb x M y M' := by
  have dp : ∀ q, x.dom q → q ≠ p := fun q hq e => by have := h.node q hq; rw [e, fp] at this; cases this
  obtain ⟨lk, ht⟩ := hy.tree
  refine ⟨fun q h0 h1 h2 h3 => ?_, fun q hq => ?_, K.sc, by rw [ht]; simp, by rw [hy.map]; simp⟩
  · rw [f q h1 h2 fun s hs => ?_, eo q h0 h2]
    rcases hs with rfl | hs
    · have e1 : (x.more s r b vs).sb s = b := if_pos rfl
      rw [e1, more_at]
      exact ⟨fun e => h0 (e ▸ fp), fun e => h0 (e ▸ fb), fun hl e => h0 (e ▸ fv hl)⟩
    · have e1 : (x.more p r b vs).sb s = x.sb s := if_neg (dp s hs)
      rw [e1, more_nd (dp s hs)]
      exact ⟨fun e => h3 ⟨s, hs, .inl e⟩, fun e => h3 ⟨s, hs, .inr (.inl e)⟩, fun hl e => h3 ⟨s, hs, .inr (.inr ⟨hl, e⟩)⟩⟩
  · rw [K.own] at hq
    obtain ⟨s, hs, hq⟩ := hq
    rcases hs with rfl | hs
    · have e1 : (x.more s r b vs).sb s = b := if_pos rfl
      rw [e1, more_at] at hq
      rcases hq with rfl | rfl | ⟨hl, rfl⟩
      · exact .inr fp
      · exact .inr fb
      · exact .inr (fv hl)
    · have e1 : (x.more p r b vs).sb s = x.sb s := if_neg (dp s hs)
      rw [e1, more_nd (dp s hs)] at hq
      exact .inl ⟨s, hs, hq⟩
theorem getL_rep (m : Nat) : ∀ i, i < m → getL cS (List.replicate m Sm0) i = cS Sm0 := fun i hi => by
  unfold getL
  rw [List.getElem?_replicate, if_pos hi]
/-- what a row that goes in leaves -/
structure Inserted (t mb : Nat) (x : Tst) (M : Nat → Blk) (T : Tr) (k : Nat) (id : Int) (vs : List Vl) (y : Tst) (M' : Nat → Blk) (T' : Tr) : Prop where
  tm : TM t mb M' y
  whole : Whole y T'
  rows : rowsT y T' = (rowsT x T).take k ++ (id, vs) :: (rowsT x T).drop k
  mov : Mov t mb x M y M'
theorem insert_ok (N : Nat) (h : TM t mb M x) (hW : Whole x T) (k : Int) (id : Int) (n : Nat) (g : Nat → List Val) (vs : List Vl) (hE : ExtL cV n g vs) (hz : insE x k id n = 0) : RetS Try.prog 9 [.ptr t 0, .int .i64 k, .int .i64 id, .ext 10 n g] N M fun v _ M' => v = .int .i64 0 ∧ ∃ y T', Inserted t mb x M T k.toNat id vs y M' T' := by
  obtain ⟨rfl, hE⟩ := hE
  have ⟨lk, ht⟩ := h.tree
  have hsm := h.small
  have hm := h.map
  have hz' := hz
  unfold insE at hz
  have h1 : vs.length = x.sc.length := by
    by_cases e : vs.length = x.sc.length
    · exact e
    · rw [if_neg e] at hz; cases hz
  rw [if_pos h1] at hz
  have hw := hz
  unfold wrongE at hz
  have hid : blook id x.by_ = none := by
    by_cases e0 : id < 1 ∨ 9007199254740992 < id
    · rw [if_pos e0] at hz; cases hz
    · rw [if_neg e0] at hz
      cases hb : blook id x.by_ with
      | none => rfl
      | some p => rw [hb] at hz; simp at hz
  have hlen : ¬ 1024 ≤ x.by_.length ∧ ¬ (k < 0 ∨ (x.by_.length : Int) < k) := by
    by_cases e0 : id < 1 ∨ 9007199254740992 < id
    · rw [if_pos e0] at hz; cases hz
    · rw [if_neg e0, hid] at hz
      by_cases e1 : 1024 ≤ x.by_.length
      · simp [e1] at hz
      · by_cases e2 : k < 0 ∨ (x.by_.length : Int) < k
        · simp [e1, e2] at hz
        · exact ⟨e1, e2⟩
  obtain ⟨hl1, hl2⟩ := hlen
  have hbl := hW.by_.len
  obtain ⟨kk, rfl⟩ : ∃ kk : Nat, k = (kk : Int) := ⟨k.toNat, by omega⟩
  rw [Int.toNat_natCast]
  have hkk : kk ≤ T.ps.length := by omega
  have h1' : (vs.length : Int) = (x.sc.length : Int) := by rw [h1]
  unfold eL at ht
  have hput : ∀ p, mput [.i .i64 id] [.ptr p 0] (encB x.by_) = encB (x.by_ ++ [(id, p)]) := fun p => mput_encB p hid
  rcases Nat.eq_zero_or_pos vs.length with h0 | h0
  · have hvs0 : vs = [] := List.eq_nil_of_length_eq_zero h0
    have hx0 : x.sc.length = 0 := by omega
    subst hvs0
    have hC' : ∀ N' M', CallC Try.prog 19 [.ext 10 ([] : List Vl).length g] N' M' .emp [] [] N' := fun N' M' => CallC.of_ret N' M' rfl (tcloneV0 g)
    refine RetS.of_body tok mixed Try.func9 (by kernel_rfl) rfl (k := 46) (rs := [.tmp 8]) (by kernel_rfl) (by kernel_rfl) ?_; intro hN
    have ltt := lt_cells hN ht
    have ltm := lt_pmap hN hm
    (conv => whnf) <;> repeat' (first | (refine CalledS.post _ (wrong_s _ h kk id (by decide)) ?_; rintro _ N1 M1 ⟨rfl, rfl⟩ l1; rw [hw]; have hN1 : ∀ b, N1 ≤ b → M1 b = .gone := (fun b hb => hN b (by omega)); conv => whnf) | ((first | refine gA ?_ | refine wN ?_ | refine nA ?_ | refine fA ?_ | refine fB ?_ | refine wC ?_ | refine wD ?_ | refine CalledS.det (CalledF.mk _ _ _ _ (none_c _ h) ?_) | refine CalledF.mk _ _ _ _ (none_c _ h) ?_ | refine CalledS.det (CalledF.mk _ _ _ _ (hC' _ _) ?_) | refine CalledF.mk _ _ _ _ (hC' _ _) ?_ | refine fdA ?_ | refine fdB ?_ | refine vC ?_ | refine vD ?_ | refine feA ?_ | refine feB ?_ | refine uC ?_ | refine uD ?_); conv => whnf) | ((first | refine Pick.dec (fun h => ?_) (fun h => ?_) | refine Pick.beq (fun h => ?_) (fun h => ?_) | refine CondF.dec (fun h => ?_) (fun h => ?_) | refine CondF.beq (fun h => ?_) (fun h => ?_) | refine CondF.nb (fun h => ?_) (fun h => ?_) | refine CondF.nd (fun h => ?_) (fun h => ?_) | refine Pick.nd (fun h => ?_) (fun h => ?_) | refine Pick.mk (fun h => ?_) (fun h => ?_) | refine CondF.mk (fun h => ?_) (fun h => ?_)) <;> conv => whnf))
    obtain ⟨r, hr⟩ : ∃ r : Rec, r = ⟨id, N1, 0, List.replicate x.sc.length Sm0, none, none, none⟩ := ⟨_, rfl⟩
    have eo : ∀ q, M1 q ≠ .gone → q ≠ mb → (setH (setH (setH M1 N1 (sumB r.sums)) (N1 + 1) (.cells (nodeC id .emp 0 (.row N1 0) .nilp .nilp .nilp))) mb (.pmap false [.i .i64] (mput [.i .i64 id] [.ptr (N1 + 1) 0] (encB x.by_)))) q = M1 q := fun q hq hqm => by
      have : q < N1 := by
        rcases Nat.lt_or_ge q N1 with e | e
        · exact e
        · exact absurd (hN1 q e) hq
      exact setH_off hqm (setH_off (by omega) (setH_off (by omega) rfl))
    have tx := h.more (M1 := setH (setH (setH M1 N1 (sumB r.sums)) (N1 + 1) (.cells (nodeC id .emp 0 (.row N1 0) .nilp .nilp .nilp))) mb (.pmap false [.i .i64] (mput [.i .i64 id] [.ptr (N1 + 1) 0] (encB x.by_)))) (p := N1 + 1) (b := N1) r [] (hN1 _ (by omega)) (hN1 _ (by omega)) (fun _ => by rw [hr]; exact hN1 _ (by simp))
      (by rw [setH_at, hput, hr]) (by rw [setH_off (by omega) (setH_at _ _ _), hr]; simp only [recC, pO_none]; rw [hx0]; rfl) (setH_off (by omega) (setH_off (by omega) (setH_at _ _ _)))
      (fun e => by omega) eo (by rw [hr]; simp) h1
    have hpd : ¬ x.dom (N1 + 1) := fun e => by have := h.node _ e; rw [hN1 _ (by omega)] at this; cases this
    have hvv : ∀ q, x.dom q → (x.nd q).vk = r.vk → x.vals r.vk = [] := fun q hq e => by
      have := h.vlen q hq
      rw [e, hx0] at this
      exact List.eq_nil_of_length_eq_zero this
    have hrid : r.id = id := by rw [hr]
    refine CalledS.weak _ ?_ _ (put_s _ T tx (hW.on.more r _ [] hpd) (hW.says.more hW.on r _ [] hpd hvv) (.inl rfl) (fun e => hpd (hW.on.mem e)) kk hkk (by have := hW.few; omega)) ?_
    · refine Less.set (Less.set (Less.row (Less.refl _) _ ?_) _ _) _ _
      refine ⟨42, 23, 0, _, getL cS r.sums, 0, rfl, ?_, fun i hi => absurd hi (by omega)⟩
      unfold sumB; rw [hr]; simp [hx0]
    rintro _ N3 M3 ⟨rfl, y, T', ty, ky, oy, sy, py, fy⟩ l3
    (conv => whnf) <;> repeat' (first | ((first | refine gA ?_ | refine wN ?_ | refine nA ?_ | refine fA ?_ | refine fB ?_ | refine wC ?_ | refine wD ?_ | refine fdA ?_ | refine fdB ?_ | refine vC ?_ | refine vD ?_ | refine feA ?_ | refine feB ?_ | refine uC ?_ | refine uD ?_); conv => whnf) | ((first | refine Pick.dec (fun h => ?_) (fun h => ?_) | refine Pick.beq (fun h => ?_) (fun h => ?_) | refine CondF.dec (fun h => ?_) (fun h => ?_) | refine CondF.beq (fun h => ?_) (fun h => ?_) | refine CondF.nb (fun h => ?_) (fun h => ?_) | refine CondF.nd (fun h => ?_) (fun h => ?_) | refine Pick.nd (fun h => ?_) (fun h => ?_) | refine Pick.mk (fun h => ?_) (fun h => ?_) | refine CondF.mk (fun h => ?_) (fun h => ?_)) <;> conv => whnf))
    have hw2 := whole_more hW hpd hvv (by rw [hrid]; exact hid) (by omega) hkk ky oy sy py
    rw [hrid] at hw2
    exact .mk N3 _ ⟨rfl, y, T', ty, hw2.1, hw2.2, mov_more h ky fy ty (hN1 _ (by omega)) (hN1 _ (by omega)) (fun e => by omega) eo⟩ (Less.refl _) (by omega) (Nat.le_refl _)
  · obtain ⟨m, hm1⟩ : ∃ m, vs.length = m + 1 := ⟨vs.length - 1, by omega⟩
    refine RetS.of_body tok mixed Try.func9 (by kernel_rfl) rfl (k := 46) (rs := [.tmp 8]) (by kernel_rfl) (by kernel_rfl) ?_; intro hN
    have ltt := lt_cells hN ht
    have ltm := lt_pmap hN hm
    have hC := tcloneV1 m g (by omega)
    rw [← hm1] at hC
    have hC' : ∀ N' M', CallC Try.prog 19 [.ext 10 vs.length g] N' M' (.row N' vs.length) [(N', .row 54 10 vs.length g 0)] [] (N' + 1) := fun N' M' => CallC.of_new N' M' rfl hC
    (conv => whnf) <;> repeat' (first | (refine CalledS.post _ (wrong_s _ h kk id (by decide)) ?_; rintro _ N1 M1 ⟨rfl, rfl⟩ l1; rw [hw]; have hN1 : ∀ b, N1 ≤ b → M1 b = .gone := (fun b hb => hN b (by omega)); conv => whnf) | ((first | refine gA ?_ | refine wN ?_ | refine nA ?_ | refine fA ?_ | refine fB ?_ | refine wC ?_ | refine wD ?_ | refine CalledS.det (CalledF.mk _ _ _ _ (none_c _ h) ?_) | refine CalledF.mk _ _ _ _ (none_c _ h) ?_ | refine CalledS.det (CalledF.mk _ _ _ _ (hC' _ _) ?_) | refine CalledF.mk _ _ _ _ (hC' _ _) ?_ | refine fdA ?_ | refine fdB ?_ | refine vC ?_ | refine vD ?_ | refine feA ?_ | refine feB ?_ | refine uC ?_ | refine uD ?_); conv => whnf) | ((first | refine Pick.dec (fun h => ?_) (fun h => ?_) | refine Pick.beq (fun h => ?_) (fun h => ?_) | refine CondF.dec (fun h => ?_) (fun h => ?_) | refine CondF.beq (fun h => ?_) (fun h => ?_) | refine CondF.nb (fun h => ?_) (fun h => ?_) | refine CondF.nd (fun h => ?_) (fun h => ?_) | refine Pick.nd (fun h => ?_) (fun h => ?_) | refine Pick.mk (fun h => ?_) (fun h => ?_) | refine CondF.mk (fun h => ?_) (fun h => ?_)) <;> conv => whnf))
    obtain ⟨r, hr⟩ : ∃ r : Rec, r = ⟨id, N1, 0, List.replicate x.sc.length Sm0, none, none, none⟩ := ⟨_, rfl⟩
    have tx := h.more (M1 := setH (setH (setH (setH M1 N1 (valB vs)) (N1 + 1) (sumB r.sums)) (N1 + 1 + 1) (.cells (nodeC id (.row N1 vs.length) 0 (.row (N1 + 1) vs.length) .nilp .nilp .nilp))) mb (.pmap false [.i .i64] (mput [.i .i64 id] [.ptr (N1 + 1 + 1) 0] (encB x.by_)))) (p := N1 + 1 + 1) (b := N1 + 1) r vs (hN1 _ (by omega)) (hN1 _ (by omega)) (fun _ => by rw [hr]; exact hN1 _ (by simp))
      (by rw [setH_at, hput, hr]) (by rw [setH_off (by omega) (setH_at _ _ _), hr]; simp only [recC, pO_none]; rw [rowV_pos (c := 0) (by omega), h1]) (setH_off (by omega) (setH_off (by omega) (setH_at _ _ _)))
      (fun _ => by rw [hr]; exact setH_off (by simp only; omega) (setH_off (by simp only; omega) (setH_off (by simp only; omega) (setH_at _ _ _))))
      (fun q hq hqm => by
        have : q < N1 := by
          rcases Nat.lt_or_ge q N1 with e | e
          · exact e
          · exact absurd (hN1 q e) hq
        exact setH_off hqm (setH_off (by omega) (setH_off (by omega) (setH_off (by omega) rfl)))) (by rw [hr]; simp) h1
    have eo : ∀ q, M1 q ≠ .gone → q ≠ mb → (setH (setH (setH (setH M1 N1 (valB vs)) (N1 + 1) (sumB r.sums)) (N1 + 1 + 1) (.cells (nodeC id (.row N1 vs.length) 0 (.row (N1 + 1) vs.length) .nilp .nilp .nilp))) mb (.pmap false [.i .i64] (mput [.i .i64 id] [.ptr (N1 + 1 + 1) 0] (encB x.by_)))) q = M1 q := fun q hq hqm => by
      have : q < N1 := by
        rcases Nat.lt_or_ge q N1 with e | e
        · exact e
        · exact absurd (hN1 q e) hq
      exact setH_off hqm (setH_off (by omega) (setH_off (by omega) (setH_off (by omega) rfl)))
    have hpd : ¬ x.dom (N1 + 1 + 1) := fun e => by have := h.node _ e; rw [hN1 _ (by omega)] at this; cases this
    have hvv : ∀ q, x.dom q → (x.nd q).vk = r.vk → x.vals r.vk = vs := fun q hq e => by
      have := h.vals q hq (by omega)
      rw [e, hr] at this
      rw [hN1 _ (Nat.le_refl _)] at this; cases this
    have hrid : r.id = id := by rw [hr]
    refine CalledS.weak _ ?_ _ (put_s _ T tx (hW.on.more r _ vs hpd) (hW.says.more hW.on r _ vs hpd hvv) (.inl rfl) (fun e => hpd (hW.on.mem e)) kk hkk (by have := hW.few; omega)) ?_
    · refine Less.set (Less.set (Less.row (Less.row (Less.refl _) _ ?_) _ ?_) _ _) _ _
      · exact row_le fun i hi => by unfold getL; rw [List.getElem?_eq_getElem hi]; exact (hE i hi).symm
      · refine ⟨42, 23, vs.length, _, getL cS r.sums, 0, rfl, ?_, fun i hi => ?_⟩
        · unfold sumB; rw [hr]; simp [h1]
        · rw [hr]; exact getL_rep _ i (by omega)
    rintro _ N3 M3 ⟨rfl, y, T', ty, ky, oy, sy, py, fy⟩ l3
    (conv => whnf) <;> repeat' (first | ((first | refine gA ?_ | refine wN ?_ | refine nA ?_ | refine fA ?_ | refine fB ?_ | refine wC ?_ | refine wD ?_ | refine fdA ?_ | refine fdB ?_ | refine vC ?_ | refine vD ?_ | refine feA ?_ | refine feB ?_ | refine uC ?_ | refine uD ?_); conv => whnf) | ((first | refine Pick.dec (fun h => ?_) (fun h => ?_) | refine Pick.beq (fun h => ?_) (fun h => ?_) | refine CondF.dec (fun h => ?_) (fun h => ?_) | refine CondF.beq (fun h => ?_) (fun h => ?_) | refine CondF.nb (fun h => ?_) (fun h => ?_) | refine CondF.nd (fun h => ?_) (fun h => ?_) | refine Pick.nd (fun h => ?_) (fun h => ?_) | refine Pick.mk (fun h => ?_) (fun h => ?_) | refine CondF.mk (fun h => ?_) (fun h => ?_)) <;> conv => whnf))
    have hw2 := whole_more hW hpd hvv (by rw [hrid]; exact hid) (by omega) hkk ky oy sy py
    rw [hrid] at hw2
    refine .mk N3 _ ⟨rfl, y, T', ty, hw2.1, hw2.2, mov_more h ky fy ty (hN1 _ (by omega)) (hN1 _ (by omega)) (fun _ => by rw [hr]; exact hN1 _ (by simp)) eo⟩ (Less.refl _) (by omega) (Nat.le_refl _)
end
end Go.Proofs.Ytafiechoplbieaa

