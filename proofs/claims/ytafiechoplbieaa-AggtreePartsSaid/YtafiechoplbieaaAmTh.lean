/- aggtree: part, Query, Sum. -/
import Derived.Test.YtafiechoplbieaaAmJi
import Derived.Test.YtafiechoplbieaaAmJg
import Derived.Test.YtafiechoplbieaaAmGV
set_option linter.unusedVariables false
set_option linter.unusedSimpArgs false
set_option maxRecDepth 100000
namespace Go.Proofs.Ytafiechoplbieaa
open Go.AM
section
variable {t mb : Nat} {M : Nat → Blk} {x : Tst} {T : Tr}
theorem TM.wk (h : TM t mb M x) {M' : Nat → Blk} (e : ∀ q, q = t ∨ q = mb ∨ Own x q → M' q = M q) : TM t mb M' x := by
  obtain ⟨lk, ht⟩ := h.tree
  exact ⟨⟨lk, (e t (.inl rfl)).trans ht⟩, (e mb (.inr (.inl rfl))).trans h.map, fun p hp => (e p (.inr (.inr ⟨p, hp, .inl rfl⟩))).trans (h.node p hp), fun p hp => (e _ (.inr (.inr ⟨p, hp, .inr (.inl rfl)⟩))).trans (h.sums p hp), h.slen, fun p hp h0 => (e _ (.inr (.inr ⟨p, hp, .inr (.inr ⟨h0, rfl⟩)⟩))).trans (h.vals p hp h0), h.vlen, h.sbi, h.vki, h.tn, h.small⟩
theorem TM.lt (h : TM t mb M x) {N : Nat} (hN : ∀ b, N ≤ b → M b = .gone) : ∀ q, q = t ∨ q = mb ∨ Own x q → q < N := by
  obtain ⟨lk, ht⟩ := h.tree
  rintro q (rfl | rfl | ⟨p, hp, rfl | rfl | ⟨h0, rfl⟩⟩)
  · exact lt_cells hN ht
  · exact lt_pmap hN h.map
  · exact lt_cells hN (h.node _ hp)
  · exact lt_row hN (h.sums p hp)
  · exact lt_row hN (h.vals p hp h0)
theorem not_own {q : Nat} : ¬ Own x q ↔ ∀ p, x.dom p → q ≠ p ∧ q ≠ x.sb p ∧ (0 < x.sc.length → q ≠ (x.nd p).vk) := by
  constructor
  · exact fun h p hp => ⟨fun e => h ⟨p, hp, .inl e⟩, fun e => h ⟨p, hp, .inr (.inl e)⟩, fun h0 e => h ⟨p, hp, .inr (.inr ⟨h0, e⟩)⟩⟩
  · rintro h ⟨p, hp, e | e | ⟨h0, e⟩⟩
    · exact (h p hp).1 e
    · exact (h p hp).2.1 e
    · exact (h p hp).2.2 h0 e
open Classical in
/-- all that was made on the way is forgotten -/
theorem finish {N : Nat} {Mf : Nat → Blk} (hN : ∀ b, N ≤ b → M b = .gone) (h : TM t mb Mf x) (hag : ∀ q, q < N → q ≠ t → q ≠ mb → ¬ Own x q → Mf q = M q) : ∃ M1, Less M1 Mf ∧ TM t mb M1 x ∧ Fr t mb x M M1 := by
  refine ⟨fun q => if q = t ∨ q = mb ∨ Own x q then Mf q else M q, fun q => ?_, h.wk fun q hq => if_pos hq, fun q h1 h2 h3 => if_neg ?_⟩
  · by_cases hq : q = t ∨ q = mb ∨ Own x q
    · exact .inl (if_pos hq)
    · rcases Nat.lt_or_ge q N with hl | hl
      · refine .inl ((if_neg hq).trans (hag q hl (fun e => hq (.inl e)) (fun e => hq (.inr (.inl e))) (fun e => hq (.inr (.inr e)))).symm)
      · exact .inr (.inl ((if_neg hq).trans (hN q hl)))
  · rintro (e | e | e)
    · exact h1 e
    · exact h2 e
    · exact (not_own.2 h3) e
theorem own_c (N : Nat) (h : TM t mb M x) {p : Nat} (hp : x.dom p) (c : Nat) (hc : c < x.sc.length) : ∃ r, CallC Try.prog 43 [.ptr t 0, .ptr p 0, .int .i64 (c : Int)] N M (eS (ofVl ((x.vals (x.nd p).vk).getD c Vl0) (x.sc.getD c 0))) [] r N := by
  obtain ⟨lk, ht⟩ := h.tree
  have hP := h.node p hp
  simp only [recC] at hP
  rw [rowV_pos hc] at hP
  exact ⟨_, own_at N c hc (by rw [h.vlen p hp]; exact hc) (h.vlen p hp).symm ht hP (h.vals p hp (by omega))⟩
theorem own_o (N : Nat) (h : TM t mb M x) {p : Nat} (hp : x.dom p) (c : Nat) (hc : c < x.sc.length) (o : Sm) (eo : o = ofVl ((x.vals (x.nd p).vk).getD c Vl0) (x.sc.getD c 0)) : ∃ r, CallC Try.prog 43 [.ptr t 0, .ptr p 0, .int .i64 (c : Int)] N M (eS o) [] r N := by
  subst eo; exact own_c N h hp c hc
theorem fr_hi {N : Nat} {M1 M2 : Nat → Blk} (hlt : ∀ q, q = t ∨ q = mb ∨ Own x q → q < N) (f : Fr t mb x M1 M2) {q : Nat} (h : N ≤ q) : M2 q = M1 q := by
  have e1 := hlt t (.inl rfl)
  have e2 := hlt mb (.inr (.inl rfl))
  refine f q (by omega) (by omega) (not_own.1 fun h' => ?_)
  have := hlt q (.inr (.inr h'))
  omega
theorem pick_max (a : Int) : pickM true a 0 = max a 0 := by
  show (if (0 : Int) > a then 0 else a) = _
  split <;> omega
theorem pick_min (a b : Int) : pickM false a b = min a b := by
  show (if b < a then b else a) = _
  split <;> omega
theorem done_ {N N' : Nat} {v val : Val} {M3 Mf : Nat → Blk} (hN : ∀ b, N ≤ b → M b = .gone) (t3 : TM t mb M3 x) (hlt : ∀ q, q = t ∨ q = mb ∨ Own x q → q < N) (e : ∀ q, q < N → Mf q = M3 q) (f : ∀ q, q < N → q ≠ t → q ≠ mb → ¬ Own x q → M3 q = M q) (hv : v = val) (hl : N ≤ N') :
    EndF N v N' Mf fun v _ M' => v = val ∧ TM t mb M' x ∧ Fr t mb x M M' := by
  obtain ⟨M1, m1, m2, m3⟩ := finish hN (t3.wk (M' := Mf) fun q hq => e q (hlt q hq)) fun q hq h1 h2 h3 => (e q hq).trans (f q hq h1 h2 h3)
  exact .mk N' M1 ⟨hv, m2, m3⟩ m1 hl (Nat.le_refl _)
theorem sums_at (h : TM t mb M x) {p : Nat} {l r : Tr} (hpd : x.dom p) (hS : Says x (Tr.node l p r)) {c : Nat} (hc : c < x.sc.length) : getL cS (x.nd p).sums (Int.toNat (c : Int)) = cS (cumS x (Tr.node l p r).ps c) := by
  have hc2 : c < (x.nd p).sums.length := by rw [h.slen p hpd]; exact hc
  rw [getL_nat hc2]
  congr 1
  have e2 : (x.nd p).sums.getD c Sm0 = cumS x (Tr.node l p r).ps c := by
    rw [hS.2.2.2]; unfold cumsS
    rw [List.getD_eq_getElem?_getD, List.getElem?_map, List.getElem?_range hc]; rfl
  rw [List.getD_eq_getElem?_getD, List.getElem?_eq_getElem hc2] at e2
  exact e2
def PartC (P : Program) (k t mb : Nat) (x : Tst) (c : Nat) (T : Tr) : Prop := ∀ (N : Nat) (M : Nat → Blk) (a b : Int), -1000000 ≤ a → a ≤ 1000000 → -1000000 ≤ b → b ≤ 1000000 → TM t mb M x →
    RetS P k [.ptr t 0, pO T.root, .int .i64 (c : Int), .int .i64 a, .int .i64 b] N M fun v _ M' => v = eS (cumS x (partS T.ps a b) c) ∧ TM t mb M' x ∧ Fr t mb x M M'
end
end Go.Proofs.Ytafiechoplbieaa

