/- aggtree: the small functions, wherever a node stands. -/
import Derived.Test.YtafiechoplbieaaAmJe
import Derived.Test.YtafiechoplbieaaAmGK
import Derived.Test.YtafiechoplbieaaAmGI
import Derived.Test.YtafiechoplbieaaAmGV
import Derived.Test.YtafiechoplbieaaAmJf
set_option linter.unusedVariables false
set_option linter.unusedSimpArgs false
set_option maxRecDepth 100000
namespace Go.Proofs.Ytafiechoplbieaa
open Go.AM
/-- a pointer to a node, or none -/
def pO : Option Nat → Val
  | none => .nilp
  | some p => .ptr p 0
theorem pO_some (p : Nat) : pO (some p) = .ptr p 0 := rfl
theorem pO_none : pO none = .nilp := rfl
/-- a node's cells -/
abbrev nodeC (id : Int) (vals : Val) (size : Int) (sums up k0 k1 : Val) : List Val := [.int .i64 id, vals, .int .i64 size, sums, up, k0, k1]
/-- the tree's own cells -/
abbrev treeC (scales root by_ : Val) (looked : Int) : List Val := [.bool true, scales, root, by_, .int .i64 looked]
/-- sums, as a row -/
abbrev sumB (l : List Sm) : Blk := .row 42 23 l.length (getL cS l) 0
abbrev valB (l : List Vl) : Blk := .row 54 10 l.length (getL cV l) 0
section
variable {M : Nat → Blk} {p : Nat} {id size : Int} {vals sums up k0 k1 : Val}
theorem many_nil (N : Nat) (M : Nat → Blk) : CallC Try.prog 54 [.nilp] N M (.int .i64 0) [] [] N := by
  refine CallC.of_ret N M rfl ?_
  refine ret_of_body atNone tok mixed Try.func54 (by kernel_rfl) rfl (k := 9) (rs := [.tmp 2]) (by kernel_rfl) (by kernel_rfl) ?_
  (conv => whnf) <;> repeat' (first | ((first | refine wN ?_ | refine wNc ?_ | refine wA ?_ | refine wB ?_ | refine wC ?_ | refine wD ?_ | refine vA ?_ | refine vB ?_ | refine vC ?_ | refine vD ?_ | refine uA ?_ | refine uB ?_ | refine uC ?_ | refine uD ?_); conv => whnf) | ((first | apply Pick.dec | apply Pick.beq | apply Cond.dec | apply Cond.beq | apply Cond.nd | apply Pick.nd | apply Pick.mk | apply Cond.mk) <;> intro h <;> conv => whnf))
  exact End.mk rfl rfl
theorem many_at (N : Nat) (h : M p = .cells (nodeC id vals size sums up k0 k1)) : CallC Try.prog 54 [.ptr p 0] N M (.int .i64 size) [] [p] N := by
  refine CallC.of_retS N [] [p] (fun b x hx => by simp at hx) (fun b hb => by simp at hb) (.inl rfl) fun H' B hag => ?_
  replace h := (hag p (by simp)).trans h
  refine RetS.of_body tok mixed Try.func54 (by kernel_rfl) rfl (k := 9) (rs := [.tmp 2]) (by kernel_rfl) (by kernel_rfl) ?_; intro hN
  (conv => whnf) <;> repeat' (first | ((first | refine gA ?_ | refine wN ?_ | refine nA ?_ | refine fA ?_ | refine fB ?_ | refine wC ?_ | refine wD ?_ | refine fdA ?_ | refine fdB ?_ | refine vC ?_ | refine vD ?_ | refine feA ?_ | refine feB ?_ | refine uC ?_ | refine uD ?_); conv => whnf) | ((first | refine Pick.dec (fun h => ?_) (fun h => ?_) | refine Pick.beq (fun h => ?_) (fun h => ?_) | refine CondF.dec (fun h => ?_) (fun h => ?_) | refine CondF.beq (fun h => ?_) (fun h => ?_) | refine CondF.nb (fun h => ?_) (fun h => ?_) | refine CondF.nd (fun h => ?_) (fun h => ?_) | refine Pick.nd (fun h => ?_) (fun h => ?_) | refine Pick.mk (fun h => ?_) (fun h => ?_) | refine CondF.mk (fun h => ?_) (fun h => ?_)) <;> conv => whnf))
  exact endF rfl (Less.refl _)
theorem below_nil (N : Nat) (M : Nat → Blk) (c : Int) : CallC Try.prog 39 [.nilp, .int .i64 c] N M (eS Sm0) [] [] N := by
  refine CallC.of_ret N M rfl ?_
  refine ret_of_body atNone tok mixed Try.func39 (by kernel_rfl) rfl (k := 15) (rs := [.cell 4 42]) (by kernel_rfl) (by kernel_rfl) ?_
  (conv => whnf) <;> repeat' (first | ((first | refine wN ?_ | refine wNc ?_ | refine wA ?_ | refine wB ?_ | refine wC ?_ | refine wD ?_ | refine vA ?_ | refine vB ?_ | refine vC ?_ | refine vD ?_ | refine uA ?_ | refine uB ?_ | refine uC ?_ | refine uD ?_); conv => whnf) | ((first | apply Pick.dec | apply Pick.beq | apply Cond.dec | apply Cond.beq | apply Cond.nd | apply Pick.nd | apply Pick.mk | apply Cond.mk) <;> intro h <;> conv => whnf))
  exact End.mk rfl rfl
theorem below_at (N : Nat) {sb n : Nat} {l : List Sm} (c : Nat) (hc : c < l.length) (hn : n = l.length) (h : M p = .cells (nodeC id vals size (.row sb n) up k0 k1)) (hs : M sb = sumB l) : CallC Try.prog 39 [.ptr p 0, .int .i64 (c : Int)] N M (eS (l.getD c Sm0)) [] [p, sb] N := by
  subst hn
  have e : l.getD c Sm0 = l[c] := by rw [List.getD_eq_getElem?_getD, List.getElem?_eq_getElem hc]; rfl
  rw [e]
  refine CallC.of_retS N [] [p, sb] (fun b x hx => by simp at hx) (fun b hb => by simp at hb) (.inl rfl) fun H' B hag => ?_
  replace h := (hag p (by simp)).trans h
  replace hs := (hag sb (by simp)).trans hs
  have gc : getL cS l (Int.toNat (c : Int)) = cS l[c] := getL_nat hc
  refine RetS.of_body tok mixed Try.func39 (by kernel_rfl) rfl (k := 15) (rs := [.cell 4 42]) (by kernel_rfl) (by kernel_rfl) ?_; intro hN
  have l1 := lt_cells hN h
  have l2 := lt_row hN hs
  (conv => whnf) <;> repeat' (first | ((conv => arg 1; whnf); rw [gc]; conv => whnf) | ((first | refine gA ?_ | refine wN ?_ | refine nA ?_ | refine fA ?_ | refine fB ?_ | refine wC ?_ | refine wD ?_ | refine fdA ?_ | refine fdB ?_ | refine vC ?_ | refine vD ?_ | refine feA ?_ | refine feB ?_ | refine uC ?_ | refine uD ?_); conv => whnf) | ((first | refine Pick.dec (fun h => ?_) (fun h => ?_) | refine Pick.beq (fun h => ?_) (fun h => ?_) | refine CondF.dec (fun h => ?_) (fun h => ?_) | refine CondF.beq (fun h => ?_) (fun h => ?_) | refine CondF.nb (fun h => ?_) (fun h => ?_) | refine CondF.nd (fun h => ?_) (fun h => ?_) | refine Pick.nd (fun h => ?_) (fun h => ?_) | refine Pick.mk (fun h => ?_) (fun h => ?_) | refine CondF.mk (fun h => ?_) (fun h => ?_)) <;> conv => whnf))
  exact endF rfl (by (intro b; simp only [setH, applyF]; repeat' split) <;> first | exact .inl rfl | exact .inr (.inl rfl) | (exact .inr (.inl (hN _ (by omega)))) | (exfalso; omega) | (subst_vars; simp_all; done))
theorem own_at (N : Nat) {t vb n : Nat} {root by_ : Val} {looked : Int} {sc : List Int} {vs : List Vl} (c : Nat) (h1 : c < sc.length) (h2 : c < vs.length) (hn : n = vs.length) (ht : M t = .cells (treeC (eL 1 cI sc) root by_ looked)) (h : M p = .cells (nodeC id (.row vb n) size sums up k0 k1)) (hv : M vb = valB vs) :
    CallC Try.prog 43 [.ptr t 0, .ptr p 0, .int .i64 (c : Int)] N M (eS (ofVl (vs.getD c Vl0) (sc.getD c 0))) [] [t, p, vb] N := by
  subst hn
  have e1 : vs.getD c Vl0 = vs[c] := by rw [List.getD_eq_getElem?_getD, List.getElem?_eq_getElem h2]; rfl
  have e2 : sc.getD c 0 = sc[c] := by rw [List.getD_eq_getElem?_getD, List.getElem?_eq_getElem h1]; rfl
  rw [e1, e2]
  refine CallC.of_retS N [] [t, p, vb] (fun b x hx => by simp at hx) (fun b hb => by simp at hb) (.inl rfl) fun H' B hag => ?_
  replace ht := (hag t (by simp)).trans ht
  replace h := (hag p (by simp)).trans h
  replace hv := (hag vb (by simp)).trans hv
  have g1 : getL cI sc (Int.toNat (c : Int)) = cI sc[c] := getL_nat h1
  have g2 : getL cV vs (Int.toNat (c : Int)) = cV vs[c] := getL_nat h2
  have hO := Of_ret vs[c] sc[c]
  unfold eL at ht
  refine RetS.of_body tok mixed Try.func43 (by kernel_rfl) rfl (k := 22) (rs := [.cell 6 42]) (by kernel_rfl) (by kernel_rfl) ?_; intro hN
  have l1 := lt_cells hN ht
  have l2 := lt_cells hN h
  have l3 := lt_row hN hv
  (conv => whnf) <;> repeat' (first | ((conv => arg 1; whnf); rw [g1]; conv => whnf) | ((conv => arg 1; whnf); rw [g2]; conv => whnf) | ((first | refine gA ?_ | refine wN ?_ | refine nA ?_ | refine fA ?_ | refine fB ?_ | refine wC ?_ | refine wD ?_ | refine CalledS.det (CalledF.mk _ _ _ _ (CallC.of_ret _ _ rfl hO) ?_) | refine CalledF.mk _ _ _ _ (CallC.of_ret _ _ rfl hO) ?_ | refine fdA ?_ | refine fdB ?_ | refine vC ?_ | refine vD ?_ | refine feA ?_ | refine feB ?_ | refine uC ?_ | refine uD ?_); conv => whnf) | ((first | refine Pick.dec (fun h => ?_) (fun h => ?_) | refine Pick.beq (fun h => ?_) (fun h => ?_) | refine CondF.dec (fun h => ?_) (fun h => ?_) | refine CondF.beq (fun h => ?_) (fun h => ?_) | refine CondF.nb (fun h => ?_) (fun h => ?_) | refine CondF.nd (fun h => ?_) (fun h => ?_) | refine Pick.nd (fun h => ?_) (fun h => ?_) | refine Pick.mk (fun h => ?_) (fun h => ?_) | refine CondF.mk (fun h => ?_) (fun h => ?_)) <;> conv => whnf))
  exact endF rfl (by (intro b; simp only [setH, applyF]; repeat' split) <;> first | exact .inl rfl | exact .inr (.inl rfl) | (exact .inr (.inl (hN _ (by omega)))) | (exfalso; omega) | (subst_vars; simp_all; done))
end
/-- a side -/
def sI : Bool → Int
  | false => 0
  | true => 1
abbrev kidC (id : Int) (vals : Val) (size : Int) (sums up k0 k1 : Val) (s : Bool) (k : Val) : List Val := match s with
  | false => nodeC id vals size sums up k k1
  | true => nodeC id vals size sums up k0 k
section
variable {M : Nat → Blk} {p n : Nat} {idp sizep idn sizen : Int} {valsp sumsp upp ap bp valsn sumsn upn an bn : Val}
theorem hang_nil (N : Nat) (s : Bool) (h : M p = .cells (nodeC idp valsp sizep sumsp upp ap bp)) :
    CallC Try.prog 58 [.ptr p 0, .int .i64 (sI s), .nilp] N M (.tup []) [(p, .cells (kidC idp valsp sizep sumsp upp ap bp s .nilp))] [p] N := by
  cases s
  all_goals
    refine CallC.of_retS N _ [p] (fun b x hx => by simp at hx; obtain ⟨rfl, rfl⟩ := hx; simp [h]) (fun b hb => by
      simp at hb; subst hb
      show okB [b] M _ (setH M b _ b)
      rw [setH_at]
      intro i hi
      match i, hi with
      | 0, _ => exact .inl rfl
      | 1, _ => exact .inr (.inl ⟨b, _, 1, by simp, h, by simp, rfl⟩)
      | 2, _ => exact .inl rfl
      | 3, _ => exact .inr (.inl ⟨b, _, 3, by simp, h, by simp, rfl⟩)
      | 4, _ => exact .inr (.inl ⟨b, _, 4, by simp, h, by simp, rfl⟩)
      | 5, _ => first | exact .inl rfl | exact .inr (.inl ⟨b, _, 5, by simp, h, by simp, rfl⟩)
      | 6, _ => first | exact .inl rfl | exact .inr (.inl ⟨b, _, 6, by simp, h, by simp, rfl⟩)) (.inl rfl) fun H' B hag => ?_
    replace h := (hag p (by simp)).trans h
    refine RetS.of_body tok mixed Try.func58 (by kernel_rfl) rfl (k := 18) (rs := []) (by kernel_rfl) (by kernel_rfl) ?_; intro hN
    (conv => whnf) <;> repeat' (first | ((first | refine gA ?_ | refine wN ?_ | refine nA ?_ | refine fA ?_ | refine fB ?_ | refine wC ?_ | refine wD ?_ | refine fdA ?_ | refine fdB ?_ | refine vC ?_ | refine vD ?_ | refine feA ?_ | refine feB ?_ | refine uC ?_ | refine uD ?_); conv => whnf) | ((first | refine Pick.dec (fun h => ?_) (fun h => ?_) | refine Pick.beq (fun h => ?_) (fun h => ?_) | refine CondF.dec (fun h => ?_) (fun h => ?_) | refine CondF.beq (fun h => ?_) (fun h => ?_) | refine CondF.nb (fun h => ?_) (fun h => ?_) | refine CondF.nd (fun h => ?_) (fun h => ?_) | refine Pick.nd (fun h => ?_) (fun h => ?_) | refine Pick.mk (fun h => ?_) (fun h => ?_) | refine CondF.mk (fun h => ?_) (fun h => ?_)) <;> conv => whnf))
    exact endF rfl (Less.refl _)
theorem hang_at (N : Nat) (s : Bool) (hpn : p ≠ n) (h : M p = .cells (nodeC idp valsp sizep sumsp upp ap bp)) (hn : M n = .cells (nodeC idn valsn sizen sumsn upn an bn)) :
    CallC Try.prog 58 [.ptr p 0, .int .i64 (sI s), .ptr n 0] N M (.tup []) [(p, .cells (kidC idp valsp sizep sumsp upp ap bp s (.ptr n 0))), (n, .cells (nodeC idn valsn sizen sumsn (.ptr p 0) an bn))] [p, n] N := by
  cases s
  all_goals
    refine CallC.of_retS N _ [p, n] (fun b x hx => by
      simp at hx
      rcases hx with ⟨rfl, _⟩ | ⟨rfl, _⟩
      · simp [h]
      · simp [hn]) (fun b hb => by
      simp at hb
      rcases hb with rfl | rfl
      · show okB [b, n] M _ (setH (setH M b _) n _ b)
        rw [setH_off hpn (setH_at _ _ _)]
        intro i hi
        match i, hi with
        | 0, _ => exact .inl rfl
        | 1, _ => exact .inr (.inl ⟨b, _, 1, by simp, h, by simp, rfl⟩)
        | 2, _ => exact .inl rfl
        | 3, _ => exact .inr (.inl ⟨b, _, 3, by simp, h, by simp, rfl⟩)
        | 4, _ => exact .inr (.inl ⟨b, _, 4, by simp, h, by simp, rfl⟩)
        | 5, _ => first | exact .inr (.inr ⟨2, by simp, rfl⟩) | exact .inr (.inl ⟨b, _, 5, by simp, h, by simp, rfl⟩)
        | 6, _ => first | exact .inr (.inr ⟨2, by simp, rfl⟩) | exact .inr (.inl ⟨b, _, 6, by simp, h, by simp, rfl⟩)
      · show okB [p, b] M _ (setH (setH M p _) b _ b)
        rw [setH_at]
        intro i hi
        match i, hi with
        | 0, _ => exact .inl rfl
        | 1, _ => exact .inr (.inl ⟨b, _, 1, by simp, hn, by simp, rfl⟩)
        | 2, _ => exact .inl rfl
        | 3, _ => exact .inr (.inl ⟨b, _, 3, by simp, hn, by simp, rfl⟩)
        | 4, _ => exact .inr (.inr ⟨0, by simp, rfl⟩)
        | 5, _ => exact .inr (.inl ⟨b, _, 5, by simp, hn, by simp, rfl⟩)
        | 6, _ => exact .inr (.inl ⟨b, _, 6, by simp, hn, by simp, rfl⟩)) (.inl rfl) fun H' B hag => ?_
    replace h := (hag p (by simp)).trans h
    replace hn := (hag n (by simp)).trans hn
    refine RetS.of_body tok mixed Try.func58 (by kernel_rfl) rfl (k := 18) (rs := []) (by kernel_rfl) (by kernel_rfl) ?_; intro hN
    (conv => whnf) <;> repeat' (first | ((first | refine gA ?_ | refine wN ?_ | refine nA ?_ | refine fA ?_ | refine fB ?_ | refine wC ?_ | refine wD ?_ | refine fdA ?_ | refine fdB ?_ | refine vC ?_ | refine vD ?_ | refine feA ?_ | refine feB ?_ | refine uC ?_ | refine uD ?_); conv => whnf) | ((first | refine Pick.dec (fun h => ?_) (fun h => ?_) | refine Pick.beq (fun h => ?_) (fun h => ?_) | refine CondF.dec (fun h => ?_) (fun h => ?_) | refine CondF.beq (fun h => ?_) (fun h => ?_) | refine CondF.nb (fun h => ?_) (fun h => ?_) | refine CondF.nd (fun h => ?_) (fun h => ?_) | refine Pick.nd (fun h => ?_) (fun h => ?_) | refine Pick.mk (fun h => ?_) (fun h => ?_) | refine CondF.mk (fun h => ?_) (fun h => ?_)) <;> conv => whnf))
    exact endF rfl (Less.refl _)
/-- on which side: where the one above has none there -/
theorem side_nil (N : Nat) (h : M n = .cells (nodeC idn valsn sizen sumsn (.ptr p 0) an bn)) (hp : M p = .cells (nodeC idp valsp sizep sumsp upp ap .nilp)) :
    CallC Try.prog 64 [.ptr n 0] N M (.int .i64 0) [] [n, p] N := by
  refine CallC.of_retS N [] [n, p] (fun b x hx => by simp at hx) (fun b hb => by simp at hb) (.inl rfl) fun H' B hag => ?_
  replace h := (hag n (by simp)).trans h
  replace hp := (hag p (by simp)).trans hp
  refine RetS.of_body tok mixed Try.func64 (by kernel_rfl) rfl (k := 13) (rs := [.tmp 2]) (by kernel_rfl) (by kernel_rfl) ?_; intro hN
  (conv => whnf) <;> repeat' (first | ((first | refine gA ?_ | refine wN ?_ | refine nA ?_ | refine fA ?_ | refine fB ?_ | refine wC ?_ | refine wD ?_ | refine fdA ?_ | refine fdB ?_ | refine vC ?_ | refine vD ?_ | refine feA ?_ | refine feB ?_ | refine uC ?_ | refine uD ?_); conv => whnf) | ((first | refine Pick.dec (fun h => ?_) (fun h => ?_) | refine Pick.beq (fun h => ?_) (fun h => ?_) | refine CondF.dec (fun h => ?_) (fun h => ?_) | refine CondF.beq (fun h => ?_) (fun h => ?_) | refine CondF.nb (fun h => ?_) (fun h => ?_) | refine CondF.nd (fun h => ?_) (fun h => ?_) | refine Pick.nd (fun h => ?_) (fun h => ?_) | refine Pick.mk (fun h => ?_) (fun h => ?_) | refine CondF.mk (fun h => ?_) (fun h => ?_)) <;> conv => whnf))
  exact endF rfl (Less.refl _)
theorem side_at (N : Nat) {m : Nat} {cs : List Val} (s : Bool) (hs : (m == n) = s) (h : M n = .cells (nodeC idn valsn sizen sumsn (.ptr p 0) an bn)) (hp : M p = .cells (nodeC idp valsp sizep sumsp upp ap (.ptr m 0))) (hm : M m = .cells cs) :
    CallC Try.prog 64 [.ptr n 0] N M (.int .i64 (sI s)) [] [n, p, m] N := by
  refine CallC.of_retS N [] [n, p, m] (fun b x hx => by simp at hx) (fun b hb => by simp at hb) (.inl rfl) fun H' B hag => ?_
  replace h := (hag n (by simp)).trans h
  replace hp := (hag p (by simp)).trans hp
  replace hm := (hag m (by simp)).trans hm
  refine RetS.of_body tok mixed Try.func64 (by kernel_rfl) rfl (k := 13) (rs := [.tmp 2]) (by kernel_rfl) (by kernel_rfl) ?_; intro hN
  (conv => whnf) <;> repeat' (first | ((first | refine gA ?_ | refine wN ?_ | refine nA ?_ | refine fA ?_ | refine fB ?_ | refine wC ?_ | refine wD ?_ | refine fdA ?_ | refine fdB ?_ | refine vC ?_ | refine vD ?_ | refine feA ?_ | refine feB ?_ | refine uC ?_ | refine uD ?_); conv => whnf) | ((first | refine Pick.dec (fun h => ?_) (fun h => ?_) | refine Pick.beq (fun h => ?_) (fun h => ?_) | refine CondF.dec (fun h => ?_) (fun h => ?_) | refine CondF.beq (fun h => ?_) (fun h => ?_) | refine CondF.nb (fun h => ?_) (fun h => ?_) | refine CondF.nd (fun h => ?_) (fun h => ?_) | refine Pick.nd (fun h => ?_) (fun h => ?_) | refine Pick.mk (fun h => ?_) (fun h => ?_) | refine CondF.mk (fun h => ?_) (fun h => ?_)) <;> conv => whnf))
  · obtain rfl : s = true := by rw [← hs]; simpa using h
    exact endF rfl (Less.refl _)
  · obtain rfl : s = false := by rw [← hs]; simpa using h
    exact endF rfl (Less.refl _)
end
end Go.Proofs.Ytafiechoplbieaa

set_option linter.unusedVariables false
set_option linter.unusedSimpArgs false
set_option maxRecDepth 100000
namespace Go.Proofs.Ytafiechoplbieaa
open Go.AM
/-- a slice that may have no elements -/
def rowV (b : Nat) : Nat → Val
  | 0 => .emp
  | n + 1 => .row b (n + 1)
theorem rowV_pos {b n c : Nat} (h : c < n) : rowV b n = .row b n := by cases n with
  | zero => omega
  | succ n => rfl
/-- what is below a node: none, or a kid -/
def Kid (M : Nat → Blk) (m t n sb : Nat) (a : Val) (z : Int) (l : List Sm) : Prop :=
  (a = .nilp ∧ z = 0 ∧ l = []) ∨ ∃ p id vals s up k0 k1, a = .ptr p 0 ∧ p ≠ t ∧ p ≠ n ∧ s ≠ sb ∧ M p = .cells (nodeC id vals z (.row s l.length) up k0 k1) ∧ M s = sumB l ∧ l.length = m
theorem getL_set {α : Type} {enc : α → List Val} {sz : Nat} (hsz : ∀ y, (enc y).length = sz) (l : List α) (i : Nat) (x : α) (hi : i < l.length) : (fun k => if k = i then (getL enc l i).take 0 ++ enc x ++ (getL enc l i).drop (0 + (enc x).length) else getL enc l k) = getL enc (l.set i x) := by
  funext k
  unfold getL
  rw [List.getElem?_set]
  by_cases h : k = i
  · subst h
    rw [if_pos rfl, if_pos rfl, if_pos hi, List.getElem?_eq_getElem hi]
    simp [hsz]
  · rw [if_neg h, if_neg (fun e => h e.symm)]
theorem sumB_set {l : List Sm} {c n : Nat} (x : Sm) (hc : c < l.length) (hn : n = l.length) : Blk.row 42 23 n (fun k => if k = Int.toNat (c : Int) then (getL cS l (Int.toNat (c : Int))).take 0 ++ cS x ++ (getL cS l (Int.toNat (c : Int))).drop (0 + (cS x).length) else getL cS l k) 0 = sumB (l.set c x) := by
  subst hn
  rw [Int.toNat_natCast, getL_set (sz := 23) (fun _ => rfl) l c x hc]
  simp [sumB]
theorem three (x y z : Sm) : ExtL cS 3 (fun i => (pieces 23 3 (cS x ++ cS y ++ cS z)).getD i []) [x, y, z] := ⟨rfl, fun i h => match i, h with
  | 0, _ => rfl
  | 1, _ => rfl
  | 2, _ => rfl⟩
/-- the heap is as it was but at three places -/
def Agr (M M' : Nat → Blk) (t n sb : Nat) : Prop := ∀ q, M q ≠ .gone → q ≠ t → q ≠ n → q ≠ sb → M' q = M q
structure KidC (M : Nat → Blk) (m t n sb : Nat) (a : Val) (z : Int) (l : List Sm) : Prop where
  many : ∀ N M', Agr M M' t n sb → ∃ r, CallC Try.prog 54 [a] N M' (.int .i64 z) [] r N
  below : ∀ c, c < m → ∀ N M', Agr M M' t n sb → ∃ r, CallC Try.prog 39 [a, .int .i64 (c : Int)] N M' (eS (l.getD c Sm0)) [] r N
theorem Kid.toC {M : Nat → Blk} {m t n sb : Nat} {a : Val} {z : Int} {l l0 : List Sm} (ht : ∃ cs, M t = .cells cs) (hn : ∃ cs, M n = .cells cs) (hs0 : M sb = sumB l0) (h : Kid M m t n sb a z l) : KidC M m t n sb a z l := by
  obtain ⟨ct, ht⟩ := ht
  obtain ⟨cn, hn⟩ := hn
  rcases h with ⟨rfl, rfl, rfl⟩ | ⟨p, id, vals, s, up, k0, k1, rfl, h1, h2, h3, h4, h5, h6⟩
  · exact ⟨fun N M' _ => ⟨[], many_nil N M'⟩, fun c hc N M' _ => ⟨[], below_nil N M' c⟩⟩
  · have hp : ∀ {M'}, Agr M M' t n sb → p ≠ sb → M' p = .cells (nodeC id vals z (.row s l.length) up k0 k1) := fun hA hne => by rw [hA p (by rw [h4]; simp) h1 h2 hne]; exact h4
    have hs : ∀ {M'}, Agr M M' t n sb → M' s = sumB l := fun hA => by rw [hA s (by rw [h5]; simp) (ne_cr ht h5).symm (ne_cr hn h5).symm h3]; exact h5
    have hps : p ≠ sb := ne_cr h4 hs0
    exact ⟨fun N M' hA => ⟨_, many_at N (hp hA hps)⟩, fun c hc N M' hA => ⟨_, below_at N c (by omega) rfl (hp hA hps) (hs hA)⟩⟩
set_option maxHeartbeats 4000000 in
theorem reckon_at {M : Nat → Blk} {t n vb sb : Nat} {id size looked : Int} {root by_ up a b : Val} {sc : List Int} {vs : List Vl} {l la lb : List Sm} {za zb : Int} (N : Nat)
    (ht : M t = .cells (treeC (eL 1 cI sc) root by_ looked)) (hn : M n = .cells (nodeC id (rowV vb vs.length) size (.row sb l.length) up a b)) (hv : 0 < vs.length → M vb = valB vs) (hs : M sb = sumB l)
    (ha : Kid M sc.length t n sb a za la) (hb : Kid M sc.length t n sb b zb lb) (h1 : vs.length = sc.length) (h2 : l.length = sc.length) (htn : t ≠ n) (h5 : sc.length ≤ 4611686018427387904) :
    RetS Try.prog 57 [.ptr t 0, .ptr n 0] N M fun v _ M' => v = .tup [] ∧
      M' = setH (setH (setH M t (.cells (treeC (eL 1 cI sc) root by_ (IntKind.i64.wrap (looked + 1))))) n (.cells (nodeC id (rowV vb vs.length) (IntKind.i64.wrap (IntKind.i64.wrap (za + zb) + 1)) (.row sb l.length) up a b))) sb (sumB (sumsR sc vs la lb)) := by
  have cA := ha.toC ⟨_, ht⟩ ⟨_, hn⟩ hs
  have cB := hb.toC ⟨_, ht⟩ ⟨_, hn⟩ hs
  clear ha hb
  have ets : t ≠ sb := ne_cr ht hs
  have ens : n ≠ sb := ne_cr hn hs
  have evs : 0 < vs.length → vb ≠ sb := fun h e => by rw [e, hs] at hv; have := hv h; injection this with e1; exact absurd e1 (by decide)
  have ⟨g, hg⟩ : ∃ g, g = getL cI sc := ⟨_, rfl⟩
  unfold eL at ht ⊢
  refine RetS.of_body tok mixed Try.func57 (by kernel_rfl) rfl (k := 64) (rs := []) (by kernel_rfl) (by kernel_rfl) ?_; intro hN
  have lt := lt_cells hN ht
  have ln := lt_cells hN hn
  have ls := lt_row hN hs
  (conv => whnf) <;> repeat' (first | ((first | refine gA ?_ | refine wN ?_ | refine nA ?_ | refine fA ?_ | refine fB ?_ | refine wC ?_ | refine wD ?_ | refine CalledS.det (CalledF.mk _ _ _ _ ((cA.many _ _ (fun q _ k1 _ _ => setH_off k1 rfl)).choose_spec) ?_) | refine CalledF.mk _ _ _ _ ((cA.many _ _ (fun q _ k1 _ _ => setH_off k1 rfl)).choose_spec) ?_ | refine CalledS.det (CalledF.mk _ _ _ _ ((cB.many _ _ (fun q _ k1 _ _ => setH_off k1 rfl)).choose_spec) ?_) | refine CalledF.mk _ _ _ _ ((cB.many _ _ (fun q _ k1 _ _ => setH_off k1 rfl)).choose_spec) ?_ | refine fdA ?_ | refine fdB ?_ | refine vC ?_ | refine vD ?_ | refine feA ?_ | refine feB ?_ | refine uC ?_ | refine uD ?_); conv => whnf) | ((first | refine Pick.dec (fun h => ?_) (fun h => ?_) | refine Pick.beq (fun h => ?_) (fun h => ?_) | refine CondF.dec (fun h => ?_) (fun h => ?_) | refine CondF.beq (fun h => ?_) (fun h => ?_) | refine CondF.nb (fun h => ?_) (fun h => ?_) | refine CondF.nd (fun h => ?_) (fun h => ?_) | refine Pick.nd (fun h => ?_) (fun h => ?_) | refine Pick.mk (fun h => ?_) (fun h => ?_) | refine CondF.mk (fun h => ?_) (fun h => ?_)) <;> conv => whnf))
  intro I hw hs'
  have key : ∀ (k c : Nat), c + k = sc.length → ∀ (N1 : Nat) (M1 : Nat → Blk) (l1 : List Sm), l1.length = sc.length → (∀ i, i < c → l1.getD i Sm0 = sumR sc vs la lb i) → N ≤ N1 → M1 sb = sumB l1 →
      (∀ q, q ≠ sb → M1 q = (setH (setH M t (.cells (treeC (.ext 1 sc.length (getL cI sc)) root by_ (IntKind.i64.wrap (looked + 1))))) n (.cells (nodeC id (rowV vb vs.length) (IntKind.i64.wrap (IntKind.i64.wrap (za + zb) + 1)) (.row sb l.length) up a b))) q) →
      I [.ptr t 0, .ptr n 0, .und, .und, .und, .und, .und, .und, .und, .und, .und, .und, .und, .und, .und, .und, .und, .und, .und, .und, .und, .und, .und, .und, .und, .und, .und, .und, .und, .und, .und, .und, .und, .int .i64 (sc.length : Int), .int .i64 (c : Int), .und, .und, .und, .und, .und, .und, .und, .und, .und, .und, .und, .und, .und, .und, .und, .und, .und, .und, .und, .und, .und, .und, .und, .und, .und, .und, .und, .und, .und] N1 M1 := by
    intro k
    induction k with
    | zero =>
      intro c hk N1 M1 l1 hl1 hpre hN1 hs1 hM1
      obtain rfl : c = sc.length := by omega
      apply hs'
      (conv => whnf) <;> repeat' (first | ((first | refine gA ?_ | refine wN ?_ | refine nA ?_ | refine fA ?_ | refine fB ?_ | refine wC ?_ | refine wD ?_ | refine fdA ?_ | refine fdB ?_ | refine vC ?_ | refine vD ?_ | refine feA ?_ | refine feB ?_ | refine uC ?_ | refine uD ?_); conv => whnf) | ((first | refine Pick.dec (fun h => ?_) (fun h => ?_) | refine Pick.beq (fun h => ?_) (fun h => ?_) | refine CondF.dec (fun h => ?_) (fun h => ?_) | refine CondF.beq (fun h => ?_) (fun h => ?_) | refine CondF.nb (fun h => ?_) (fun h => ?_) | refine CondF.nd (fun h => ?_) (fun h => ?_) | refine Pick.nd (fun h => ?_) (fun h => ?_) | refine Pick.mk (fun h => ?_) (fun h => ?_) | refine CondF.mk (fun h => ?_) (fun h => ?_)) <;> conv => whnf))
      refine EndF.mk N1 M1 ⟨rfl, ?_⟩ (Less.refl _) hN1 (Nat.le_refl _)
      funext q
      by_cases e : q = sb
      · subst e
        rw [hs1, setH_at]
        congr 1
        refine List.ext_getElem (by simp [sumsR, hl1]) fun i hi hi' => ?_
        have := hpre i (by omega)
        rw [List.getD_eq_getElem?_getD, List.getElem?_eq_getElem hi] at this
        simp only [sumsR, List.getElem_map, List.getElem_range]
        exact this
      · rw [hM1 q e, setH_off e rfl]
    | succ k ih =>
      intro c hk N1 M1 l1 hl1 hpre hN1 hs1 hM1
      apply hw.know
      intro hN1'
      have hc : c < sc.length := by omega
      have hA : ∀ x, Agr M (setH M1 N1 x) t n sb := fun x q k0 k1 k2 k3 => by
        have : q < N := by
          rcases Nat.lt_or_ge q N with h | h
          · exact h
          · exact absurd (hN q h) k0
        rw [setH_off (by omega) rfl, hM1 q k3, setH_off k2 (setH_off k1 rfl)]
      have hA' : Agr M M1 t n sb := fun q k0 k1 k2 k3 => by rw [hM1 q k3, setH_off k2 (setH_off k1 rfl)]
      have hn1 : M1 n = .cells (nodeC id (.row vb vs.length) (IntKind.i64.wrap (IntKind.i64.wrap (za + zb) + 1)) (.row sb l.length) up a b) := by
        rw [hM1 n ens, setH_at, rowV_pos (show c < vs.length by omega)]
      have ht1 : M1 t = .cells (treeC (eL 1 cI sc) root by_ (IntKind.i64.wrap (looked + 1))) := by
        rw [hM1 t ets, setH_off htn (setH_at _ _ _)]; rfl
      have hv1 : M1 vb = valB vs := by
        have h0 := hv (by omega)
        rw [hM1 vb (evs (by omega)), setH_off (ne_cr hn h0).symm (setH_off (ne_cr ht h0).symm h0)]
      have hI : IntKind.i64.wrap ((c : Int) + 1) = ((c + 1 : Nat) : Int) := by rw [wi64_id (by omega) (by omega)]; omega
      have lt1 := lt_cells hN1' ht1
      have ln1 := lt_cells hN1' hn1
      have ls1 := lt_row hN1' hs1
      apply hs'
      (conv => whnf) <;> repeat' (first | (refine CalledF.lent _ _ _ (.row (setH_at _ _ _) (by omega) .nil) _ _ _ (CallC.of_ret _ _ rfl (Join_ret 3 _ _ (three _ _ _) (by omega))) ?_; conv => whnf) | ((first | refine gA ?_ | refine wN ?_ | refine nA ?_ | refine fA ?_ | refine fB ?_ | refine wC ?_ | refine wD ?_ | refine CalledS.det (CalledF.mk _ _ _ _ ((cA.below c hc _ _ hA').choose_spec) ?_) | refine CalledF.mk _ _ _ _ ((cA.below c hc _ _ hA').choose_spec) ?_ | refine CalledS.det (CalledF.mk _ _ _ _ (own_at _ c hc (by omega) rfl ht1 hn1 hv1) ?_) | refine CalledF.mk _ _ _ _ (own_at _ c hc (by omega) rfl ht1 hn1 hv1) ?_ | refine CalledS.det (CalledF.mk _ _ _ _ ((cB.below c hc _ _ hA').choose_spec) ?_) | refine CalledF.mk _ _ _ _ ((cB.below c hc _ _ hA').choose_spec) ?_ | refine fdA ?_ | refine fdB ?_ | refine vC ?_ | refine vD ?_ | refine feA ?_ | refine feB ?_ | refine uC ?_ | refine uD ?_); conv => whnf) | ((first | refine Pick.dec (fun h => ?_) (fun h => ?_) | refine Pick.beq (fun h => ?_) (fun h => ?_) | refine CondF.dec (fun h => ?_) (fun h => ?_) | refine CondF.beq (fun h => ?_) (fun h => ?_) | refine CondF.nb (fun h => ?_) (fun h => ?_) | refine CondF.nd (fun h => ?_) (fun h => ?_) | refine Pick.nd (fun h => ?_) (fun h => ?_) | refine Pick.mk (fun h => ?_) (fun h => ?_) | refine CondF.mk (fun h => ?_) (fun h => ?_)) <;> conv => whnf))
      rw [hI]
      apply hw.weak (Weak.mk [true, true, false, false, false, false, false, false, false, false, false, false, false, false, false, false, false, false, false, false, false, false, false, false, false, false, false, false, false, false, false, false, false, true, true] (Nat.le_refl _) (M' := setH M1 sb (sumB (l1.set c (sumR sc vs la lb c)))) ?_)
      · refine ih (c + 1) (by omega) (N1 + 1) _ (l1.set c (sumR sc vs la lb c)) (by simp [hl1]) (fun i hi => ?_) (by omega) (setH_at _ _ _) (fun q hq => setH_off hq (hM1 q hq))
        rw [List.getD_eq_getElem?_getD, List.getElem?_set]
        by_cases e : c = i
        · subst e; rw [if_pos rfl, if_pos (by omega)]; rfl
        · rw [if_neg e, ← List.getD_eq_getElem?_getD]; exact hpre i (by omega)
      · intro b
        by_cases e : b = sb
        · subst e
          refine .inl ?_
          rw [setH_at, setH_at]
          exact (sumB_set _ (by omega) rfl).symm
        · by_cases e2 : b = N1
          · subst e2
            exact .inr (.inl (setH_off e (hN1' _ (Nat.le_refl _))))
          · refine .inl ?_
            rw [setH_off e rfl]
            exact (setH_off e (setH_off e2 (setH_off e2 rfl))).symm
  apply hw.weak (Weak.mk [true, true, false, false, false, false, false, false, false, false, false, false, false, false, false, false, false, false, false, false, false, false, false, false, false, false, false, false, false, false, false, false, false, true, true] (Nat.le_refl _) (Less.refl _))
  exact key sc.length 0 (by omega) N _ l h2 (fun i hi => absurd hi (by omega)) (Nat.le_refl _) (setH_off ens.symm (setH_off ets.symm hs)) (fun q hq => rfl)
end Go.Proofs.Ytafiechoplbieaa

