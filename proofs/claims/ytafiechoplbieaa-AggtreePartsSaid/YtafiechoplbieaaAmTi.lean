/- aggtree: part at a node. Printed by tools/partgen.py. -/
import Derived.Test.YtafiechoplbieaaAmTh
set_option linter.unusedVariables false
set_option linter.unusedSimpArgs false
set_option maxRecDepth 100000
namespace Go.Proofs.Ytafiechoplbieaa
open Go.AM
section
variable {t mb : Nat} {x : Tst}
set_option maxHeartbeats 40000000 in
theorem part_0 (c : Nat) (hc : c < x.sc.length) (l : Tr) (p : Nat) (r : Tr) (up : Option Nat) (hT : TreeOn x.nd (Tr.node l p r) up) (hS : Says x (Tr.node l p r)) (hd : ∀ q ∈ (Tr.node l p r).ps, x.dom q) (hl : (Tr.node l p r).ps.length ≤ 1024)
    (ihl' : PartC Try.prog 37 t mb x c l) (ihr' : PartC Try.prog 37 t mb x c r)
    (N : Nat) (M : Nat → Blk) (a b : Int) (a0 : -1000000 ≤ a) (a1 : a ≤ 1000000) (b0 : -1000000 ≤ b) (b1 : b ≤ 1000000) (h : TM t mb M x) (hk : max a 0 ≥ min b ((Tr.node l p r).ps.length : Int)) :
    RetS Try.prog 37 [.ptr t 0, pO (Tr.node l p r).root, .int .i64 (c : Int), .int .i64 a, .int .i64 b] N M fun v _ M' => v = eS (cumS x (partS (Tr.node l p r).ps a b) c) ∧ TM t mb M' x ∧ Fr t mb x M M' := by
  obtain ⟨hup, hk0, hk1, hTl, hTr⟩ := hT
  have hpd : x.dom p := hd p (by simp [Tr.ps])
  have dl : ∀ q, l.root = some q → x.dom q := fun q hq => hd q (by simp [Tr.ps, root_mem hq])
  have hlen : (Tr.node l p r).ps.length = l.ps.length + r.ps.length + 1 := by simp [Tr.ps]; omega
  have hsz := hS.2.2.1
  have hsl := hS.1.sizeO
  obtain ⟨L, hL⟩ : ∃ L : Nat, L = (Tr.node l p r).ps.length := ⟨_, rfl⟩
  obtain ⟨kl, hkl⟩ : ∃ kl : Nat, kl = l.ps.length := ⟨_, rfl⟩
  rw [← hL] at hsz
  rw [← hkl] at hsl
  have hmany : ∀ N' M', TM t mb M' x → ∃ r', CallC Try.prog 54 [.ptr p 0] N' M' (.int .i64 (L : Int)) [] r' N' := fun N' M' h' => by
    have := many_c N' h' (some p) (fun q hq => by injection hq with hq; subst hq; exact hpd)
    rw [show x.sizeO (some p) = (x.nd p).size from rfl, hsz] at this; exact this
  have hmanyl : ∀ N' M', TM t mb M' x → ∃ r', CallC Try.prog 54 [pO l.root] N' M' (.int .i64 (kl : Int)) [] r' N' := fun N' M' h' => by
    have := many_c N' h' l.root dl
    rw [hsl] at this; exact this
  obtain ⟨A, hA⟩ : ∃ A, A = pickM true a 0 := ⟨_, rfl⟩
  obtain ⟨B, hB⟩ : ∃ B, B = pickM false b (L : Int) := ⟨_, rfl⟩
  have eA : A = max a 0 := by rw [hA, pick_max]
  have eB : B = min b (L : Int) := by rw [hB, pick_min]
  have eP : partS (Tr.node l p r).ps a b = partS (Tr.node l p r).ps A B := by rw [eA, eB, hL, partS_clamp]
  rw [eP]
  have hP := h.node p hpd
  have hS2 := h.sums p hpd
  have gsum : getL cS (x.nd p).sums (Int.toNat (c : Int)) = cS (cumS x (Tr.node l p r).ps c) := sums_at h hpd hS hc
  have hslen := h.slen p hpd
  unfold sumB at hS2
  unfold PartC at ihl' ihr'
  rw [hslen] at hS2
  simp only [recC, hsz, hk0, hk1] at hP
  obtain ⟨lk, ht⟩ := h.tree
  rw [← hL, ← eA, ← eB] at hk
  refine RetS.of_body tok mixed Try.func37 (by kernel_rfl) rfl (k := 99) (rs := [.cell 10 42]) (by kernel_rfl) (by kernel_rfl) ?_; intro hN
  have hlt := h.lt hN
  have ltt := hlt t (.inl rfl)
  have ltp := hlt p (.inr (.inr ⟨p, hpd, .inl rfl⟩))
  have lts := hlt (x.sb p) (.inr (.inr ⟨p, hpd, .inr (.inl rfl)⟩))
  have ntp := h.tn p hpd
  have nts := h.nst hpd
  have h1 : ∀ z, TM t mb (setH M N z) x := fun z => h.wk fun q hq => setH_off (by have := hlt q hq; omega) rfl
  have h2 : ∀ z lk', TM t mb (setH (setH M N z) t (.cells (treeC (eL 1 cI x.sc) (pO x.root) (.map mb) lk'))) x := fun z lk' => (h1 z).setTree x.root lk'
  (conv => whnf) <;> repeat' (first | (rw [← hA, ← hB]; conv => whnf) | ((first | refine gA ?_ | refine wN ?_ | refine nA ?_ | refine fA ?_ | refine fB ?_ | refine wC ?_ | refine wD ?_ | refine CalledS.det (CalledF.mk _ _ _ _ ((hmany _ _ (h1 _)).choose_spec) ?_) | refine CalledF.mk _ _ _ _ ((hmany _ _ (h1 _)).choose_spec) ?_ | refine fdA ?_ | refine fdB ?_ | refine vC ?_ | refine vD ?_ | refine feA ?_ | refine feB ?_ | refine uC ?_ | refine uD ?_); conv => whnf) | ((first | refine Pick.dec (fun h => ?_) (fun h => ?_) | refine Pick.beq (fun h => ?_) (fun h => ?_) | refine CondF.dec (fun h => ?_) (fun h => ?_) | refine CondF.beq (fun h => ?_) (fun h => ?_) | refine CondF.nb (fun h => ?_) (fun h => ?_) | refine CondF.nd (fun h => ?_) (fun h => ?_) | refine Pick.nd (fun h => ?_) (fun h => ?_) | refine Pick.mk (fun h => ?_) (fun h => ?_) | refine CondF.mk (fun h => ?_) (fun h => ?_)) <;> conv => whnf))
  rw [partS_none (by rw [← hL]; omega), cumS_nil]
  exact .mk (N + 1) M ⟨rfl, h, .refl _ _ _ _⟩ ((((Less.refl M).drop _ (hN N (Nat.le_refl _)))).drop _ (hN N (Nat.le_refl _))) (by omega) (Nat.le_refl _)
set_option maxHeartbeats 40000000 in
theorem part_1 (c : Nat) (hc : c < x.sc.length) (l : Tr) (p : Nat) (r : Tr) (up : Option Nat) (hT : TreeOn x.nd (Tr.node l p r) up) (hS : Says x (Tr.node l p r)) (hd : ∀ q ∈ (Tr.node l p r).ps, x.dom q) (hl : (Tr.node l p r).ps.length ≤ 1024)
    (ihl' : PartC Try.prog 37 t mb x c l) (ihr' : PartC Try.prog 37 t mb x c r)
    (N : Nat) (M : Nat → Blk) (a b : Int) (a0 : -1000000 ≤ a) (a1 : a ≤ 1000000) (b0 : -1000000 ≤ b) (b1 : b ≤ 1000000) (h : TM t mb M x) (hk : ¬ max a 0 ≥ min b ((Tr.node l p r).ps.length : Int) ∧ max a 0 = 0 ∧ min b ((Tr.node l p r).ps.length : Int) = ((Tr.node l p r).ps.length : Int)) :
    RetS Try.prog 37 [.ptr t 0, pO (Tr.node l p r).root, .int .i64 (c : Int), .int .i64 a, .int .i64 b] N M fun v _ M' => v = eS (cumS x (partS (Tr.node l p r).ps a b) c) ∧ TM t mb M' x ∧ Fr t mb x M M' := by
  obtain ⟨hup, hk0, hk1, hTl, hTr⟩ := hT
  have hpd : x.dom p := hd p (by simp [Tr.ps])
  have dl : ∀ q, l.root = some q → x.dom q := fun q hq => hd q (by simp [Tr.ps, root_mem hq])
  have hlen : (Tr.node l p r).ps.length = l.ps.length + r.ps.length + 1 := by simp [Tr.ps]; omega
  have hsz := hS.2.2.1
  have hsl := hS.1.sizeO
  obtain ⟨L, hL⟩ : ∃ L : Nat, L = (Tr.node l p r).ps.length := ⟨_, rfl⟩
  obtain ⟨kl, hkl⟩ : ∃ kl : Nat, kl = l.ps.length := ⟨_, rfl⟩
  rw [← hL] at hsz
  rw [← hkl] at hsl
  have hmany : ∀ N' M', TM t mb M' x → ∃ r', CallC Try.prog 54 [.ptr p 0] N' M' (.int .i64 (L : Int)) [] r' N' := fun N' M' h' => by
    have := many_c N' h' (some p) (fun q hq => by injection hq with hq; subst hq; exact hpd)
    rw [show x.sizeO (some p) = (x.nd p).size from rfl, hsz] at this; exact this
  have hmanyl : ∀ N' M', TM t mb M' x → ∃ r', CallC Try.prog 54 [pO l.root] N' M' (.int .i64 (kl : Int)) [] r' N' := fun N' M' h' => by
    have := many_c N' h' l.root dl
    rw [hsl] at this; exact this
  obtain ⟨A, hA⟩ : ∃ A, A = pickM true a 0 := ⟨_, rfl⟩
  obtain ⟨B, hB⟩ : ∃ B, B = pickM false b (L : Int) := ⟨_, rfl⟩
  have eA : A = max a 0 := by rw [hA, pick_max]
  have eB : B = min b (L : Int) := by rw [hB, pick_min]
  have eP : partS (Tr.node l p r).ps a b = partS (Tr.node l p r).ps A B := by rw [eA, eB, hL, partS_clamp]
  rw [eP]
  have hP := h.node p hpd
  have hS2 := h.sums p hpd
  have gsum : getL cS (x.nd p).sums (Int.toNat (c : Int)) = cS (cumS x (Tr.node l p r).ps c) := sums_at h hpd hS hc
  have hslen := h.slen p hpd
  unfold sumB at hS2
  unfold PartC at ihl' ihr'
  rw [hslen] at hS2
  simp only [recC, hsz, hk0, hk1] at hP
  obtain ⟨lk, ht⟩ := h.tree
  rw [← hL, ← eA, ← eB] at hk
  refine RetS.of_body tok mixed Try.func37 (by kernel_rfl) rfl (k := 99) (rs := [.cell 10 42]) (by kernel_rfl) (by kernel_rfl) ?_; intro hN
  have hlt := h.lt hN
  have ltt := hlt t (.inl rfl)
  have ltp := hlt p (.inr (.inr ⟨p, hpd, .inl rfl⟩))
  have lts := hlt (x.sb p) (.inr (.inr ⟨p, hpd, .inr (.inl rfl)⟩))
  have ntp := h.tn p hpd
  have nts := h.nst hpd
  have h1 : ∀ z, TM t mb (setH M N z) x := fun z => h.wk fun q hq => setH_off (by have := hlt q hq; omega) rfl
  have h2 : ∀ z lk', TM t mb (setH (setH M N z) t (.cells (treeC (eL 1 cI x.sc) (pO x.root) (.map mb) lk'))) x := fun z lk' => (h1 z).setTree x.root lk'
  have c2 : (A == 0) = true := by simp; omega
  have c3 : (B == (L : Int)) = true := by simp; omega
  have c1 : ¬ A ≥ B := by omega
  (conv => whnf) <;> repeat' (first | (rw [← hA, ← hB]; conv => whnf) | ((conv => arg 1; whnf); rw [gsum]; conv => whnf) | ((first | refine gA ?_ | refine wN ?_ | refine nA ?_ | refine fA ?_ | refine fB ?_ | refine wC ?_ | refine wD ?_ | refine CalledS.det (CalledF.mk _ _ _ _ ((hmany _ _ (h1 _)).choose_spec) ?_) | refine CalledF.mk _ _ _ _ ((hmany _ _ (h1 _)).choose_spec) ?_ | refine fdA ?_ | refine fdB ?_ | refine vC ?_ | refine vD ?_ | refine feA ?_ | refine feB ?_ | refine uC ?_ | refine uD ?_); conv => whnf) | ((first | refine Pick.dec (fun h => ?_) (fun h => ?_) | refine Pick.beq (fun h => ?_) (fun h => ?_) | refine CondF.dec (fun h => ?_) (fun h => ?_) | refine CondF.beq (fun h => ?_) (fun h => ?_) | refine CondF.nb (fun h => ?_) (fun h => ?_) | refine CondF.nd (fun h => ?_) (fun h => ?_) | refine Pick.nd (fun h => ?_) (fun h => ?_) | refine Pick.mk (fun h => ?_) (fun h => ?_) | refine CondF.mk (fun h => ?_) (fun h => ?_)) <;> conv => whnf))
  rw [partS_all (a := A) (b := B) (by omega) (by rw [← hL]; omega)]
  exact done_ hN (h2 _ _) hlt (fun q hq => setH_off (by omega) rfl) (fun q hq g1 g2 g3 => setH_off (by omega) (setH_off (by omega) rfl)) rfl (by omega)
set_option maxHeartbeats 40000000 in
theorem part_2 (c : Nat) (hc : c < x.sc.length) (l : Tr) (p : Nat) (r : Tr) (up : Option Nat) (hT : TreeOn x.nd (Tr.node l p r) up) (hS : Says x (Tr.node l p r)) (hd : ∀ q ∈ (Tr.node l p r).ps, x.dom q) (hl : (Tr.node l p r).ps.length ≤ 1024)
    (ihl' : PartC Try.prog 37 t mb x c l) (ihr' : PartC Try.prog 37 t mb x c r)
    (N : Nat) (M : Nat → Blk) (a b : Int) (a0 : -1000000 ≤ a) (a1 : a ≤ 1000000) (b0 : -1000000 ≤ b) (b1 : b ≤ 1000000) (h : TM t mb M x) (hk : ¬ max a 0 ≥ min b ((Tr.node l p r).ps.length : Int) ∧ max a 0 = 0 ∧ ¬ min b ((Tr.node l p r).ps.length : Int) = ((Tr.node l p r).ps.length : Int) ∧ max a 0 ≤ (l.ps.length : Int) ∧ (l.ps.length : Int) < min b ((Tr.node l p r).ps.length : Int)) :
    RetS Try.prog 37 [.ptr t 0, pO (Tr.node l p r).root, .int .i64 (c : Int), .int .i64 a, .int .i64 b] N M fun v _ M' => v = eS (cumS x (partS (Tr.node l p r).ps a b) c) ∧ TM t mb M' x ∧ Fr t mb x M M' := by
  obtain ⟨hup, hk0, hk1, hTl, hTr⟩ := hT
  have hpd : x.dom p := hd p (by simp [Tr.ps])
  have dl : ∀ q, l.root = some q → x.dom q := fun q hq => hd q (by simp [Tr.ps, root_mem hq])
  have hlen : (Tr.node l p r).ps.length = l.ps.length + r.ps.length + 1 := by simp [Tr.ps]; omega
  have hsz := hS.2.2.1
  have hsl := hS.1.sizeO
  obtain ⟨L, hL⟩ : ∃ L : Nat, L = (Tr.node l p r).ps.length := ⟨_, rfl⟩
  obtain ⟨kl, hkl⟩ : ∃ kl : Nat, kl = l.ps.length := ⟨_, rfl⟩
  rw [← hL] at hsz
  rw [← hkl] at hsl
  have hmany : ∀ N' M', TM t mb M' x → ∃ r', CallC Try.prog 54 [.ptr p 0] N' M' (.int .i64 (L : Int)) [] r' N' := fun N' M' h' => by
    have := many_c N' h' (some p) (fun q hq => by injection hq with hq; subst hq; exact hpd)
    rw [show x.sizeO (some p) = (x.nd p).size from rfl, hsz] at this; exact this
  have hmanyl : ∀ N' M', TM t mb M' x → ∃ r', CallC Try.prog 54 [pO l.root] N' M' (.int .i64 (kl : Int)) [] r' N' := fun N' M' h' => by
    have := many_c N' h' l.root dl
    rw [hsl] at this; exact this
  obtain ⟨A, hA⟩ : ∃ A, A = pickM true a 0 := ⟨_, rfl⟩
  obtain ⟨B, hB⟩ : ∃ B, B = pickM false b (L : Int) := ⟨_, rfl⟩
  have eA : A = max a 0 := by rw [hA, pick_max]
  have eB : B = min b (L : Int) := by rw [hB, pick_min]
  have eP : partS (Tr.node l p r).ps a b = partS (Tr.node l p r).ps A B := by rw [eA, eB, hL, partS_clamp]
  rw [eP]
  have hP := h.node p hpd
  have hS2 := h.sums p hpd
  have gsum : getL cS (x.nd p).sums (Int.toNat (c : Int)) = cS (cumS x (Tr.node l p r).ps c) := sums_at h hpd hS hc
  have hslen := h.slen p hpd
  unfold sumB at hS2
  unfold PartC at ihl' ihr'
  rw [hslen] at hS2
  simp only [recC, hsz, hk0, hk1] at hP
  obtain ⟨lk, ht⟩ := h.tree
  rw [← hL, ← eA, ← eB] at hk
  rw [← hkl] at hk
  refine RetS.of_body tok mixed Try.func37 (by kernel_rfl) rfl (k := 99) (rs := [.cell 10 42]) (by kernel_rfl) (by kernel_rfl) ?_; intro hN
  have hlt := h.lt hN
  have ltt := hlt t (.inl rfl)
  have ltp := hlt p (.inr (.inr ⟨p, hpd, .inl rfl⟩))
  have lts := hlt (x.sb p) (.inr (.inr ⟨p, hpd, .inr (.inl rfl)⟩))
  have ntp := h.tn p hpd
  have nts := h.nst hpd
  have h1 : ∀ z, TM t mb (setH M N z) x := fun z => h.wk fun q hq => setH_off (by have := hlt q hq; omega) rfl
  have h2 : ∀ z lk', TM t mb (setH (setH M N z) t (.cells (treeC (eL 1 cI x.sc) (pO x.root) (.map mb) lk'))) x := fun z lk' => (h1 z).setTree x.root lk'
  have c1 : ¬ A ≥ B := by omega
  have e1 : IntKind.i64.wrap (IntKind.i64.wrap (A - kl) - 1) = A - kl - 1 := by rw [wi64_id (n := A - kl) (by omega) (by omega), wi64_id (by omega) (by omega)]
  have e2 : IntKind.i64.wrap (IntKind.i64.wrap (B - kl) - 1) = B - kl - 1 := by rw [wi64_id (n := B - kl) (by omega) (by omega), wi64_id (by omega) (by omega)]
  obtain ⟨o, eo⟩ : ∃ o, o = ofVl ((x.vals (x.nd p).vk).getD c Vl0) (x.sc.getD c 0) := ⟨_, rfl⟩
  have pm := partS_mid (l := l.ps) (r := r.ps) (p := p) (a := A) (b := B) (by omega) (by omega)
  rw [← hkl] at pm
  have c2 : (A == 0) = true := by simp; omega
  have c3 : (B == (L : Int)) = false := by simp; omega
  have c4 : A ≤ kl := by omega
  have c5 : (kl : Int) < B := by omega
  (conv => whnf) <;> repeat' (first | (rw [← hA, ← hB]; conv => whnf) | (rw [e1, e2]; conv => whnf) | (refine CalledS.det (CalledF.lent _ _ _ (.row (setH_at _ _ _) (Nat.le_refl _) .nil) _ _ _ (CallC.of_ret _ _ rfl (Join_ret _ _ _ (ExtL.snoc (ExtL.snoc (ExtL.one _) _) _) (by omega))) ?_); conv => whnf) | (refine CalledS.det (CalledF.lent _ _ _ (.row (setH_at _ _ _) (Nat.le_refl _) .nil) _ _ _ (CallC.of_ret _ _ rfl (Join_ret _ _ _ (ExtL.snoc (ExtL.one _) _) (by omega))) ?_); conv => whnf) | (refine CalledS.post _ (ihl' _ _ A B (by omega) (by omega) (by omega) (by omega) (h2 _ _)) ?_; rintro _ N2 M2 ⟨hv2, t2, f2⟩ l2; obtain ⟨s1, es1⟩ : ∃ s, s = cumS x (partS l.ps A B) c := ⟨_, rfl⟩; rw [← es1] at hv2; subst hv2; have hn2 := (fr_hi hlt f2 (Nat.le_refl _)).trans (setH_off (by omega : N ≠ t) (setH_at _ _ _)); have hP2 := t2.node p hpd; simp only [recC, hsz, hk0, hk1] at hP2; conv => whnf) | (refine CalledS.post _ (ihr' _ _ (A - kl - 1) (B - kl - 1) (by omega) (by omega) (by omega) (by omega) (t2.wk (fun q hq => by have := hlt q hq; repeat' (first | rfl | apply setH_off | omega)))) ?_; rintro _ N3 M3 ⟨hv3, t3, f3⟩ l3; obtain ⟨s2, es2⟩ : ∃ s, s = cumS x (partS r.ps (A - kl - 1) (B - kl - 1)) c := ⟨_, rfl⟩; rw [← es2] at hv3; subst hv3; have hn3 : M3 N = M2 N := (fr_hi hlt f3 (Nat.le_refl _)).trans (by repeat' (first | rfl | apply setH_off | omega)); rw [hn2] at hn3; (first | (have hr3 := fr_hi hlt f3 (q := N2 + 1 + 1) (by omega); rw [setH_at] at hr3) | (have hr3 := fr_hi hlt f3 (q := N2) (by omega); rw [setH_at] at hr3)); conv => whnf) | ((first | refine gA ?_ | refine wN ?_ | refine nA ?_ | refine fA ?_ | refine fB ?_ | refine wC ?_ | refine wD ?_ | refine CalledS.det (CalledF.mk _ _ _ _ ((hmany _ _ (h1 _)).choose_spec) ?_) | refine CalledF.mk _ _ _ _ ((hmany _ _ (h1 _)).choose_spec) ?_ | refine CalledS.det (CalledF.mk _ _ _ _ ((hmanyl _ _ (h2 _ _)).choose_spec) ?_) | refine CalledF.mk _ _ _ _ ((hmanyl _ _ (h2 _ _)).choose_spec) ?_ | refine CalledS.det (CalledF.mk _ _ _ _ ((own_o _ (t2.wk (fun q hq => by have := hlt q hq; repeat' (first | rfl | apply setH_off | omega))) hpd c hc o eo).choose_spec) ?_) | refine CalledF.mk _ _ _ _ ((own_o _ (t2.wk (fun q hq => by have := hlt q hq; repeat' (first | rfl | apply setH_off | omega))) hpd c hc o eo).choose_spec) ?_ | refine fdA ?_ | refine fdB ?_ | refine vC ?_ | refine vD ?_ | refine feA ?_ | refine feB ?_ | refine uC ?_ | refine uD ?_); conv => whnf) | ((first | refine Pick.dec (fun h => ?_) (fun h => ?_) | refine Pick.beq (fun h => ?_) (fun h => ?_) | refine CondF.dec (fun h => ?_) (fun h => ?_) | refine CondF.beq (fun h => ?_) (fun h => ?_) | refine CondF.nb (fun h => ?_) (fun h => ?_) | refine CondF.nd (fun h => ?_) (fun h => ?_) | refine Pick.nd (fun h => ?_) (fun h => ?_) | refine Pick.mk (fun h => ?_) (fun h => ?_) | refine CondF.mk (fun h => ?_) (fun h => ?_)) <;> conv => whnf))
  all_goals
    refine done_ hN t3 hlt (fun q hq => by repeat' (first | rfl | apply setH_off | omega)) (fun q hq g1 g2 g3 => ?_) ?_ (by omega)
    · rw [f3 q g1 g2 (not_own.1 g3)]
      refine Eq.trans (b := M2 q) (by repeat' (first | rfl | apply setH_off | omega)) ?_
      rw [f2 q g1 g2 (not_own.1 g3)]
      repeat' (first | rfl | apply setH_off | omega)
    · have g1 : SG (x.sc.getD c 0) s1 := es1 ▸ cumS_G _ _ _
      have g2 : SG (x.sc.getD c 0) s2 := es2 ▸ cumS_G _ _ _
      have g3 : SG (x.sc.getD c 0) o := eo ▸ SG_of _ _
      rw [show (Tr.node l p r).ps = l.ps ++ p :: r.ps from rfl, pm, cumS_append, ← es1]
      rw [if_pos ⟨by omega, by omega⟩, cumS_append, cumS_one, ← eo, ← es2]
      show eS (joinS ([s1] ++ [o] ++ [s2])) = _
      rw [show [s1] ++ [o] ++ [s2] = [s1, o, s2] from rfl, joinS_three g1 g3 g2]
set_option maxHeartbeats 40000000 in
theorem part_3 (c : Nat) (hc : c < x.sc.length) (l : Tr) (p : Nat) (r : Tr) (up : Option Nat) (hT : TreeOn x.nd (Tr.node l p r) up) (hS : Says x (Tr.node l p r)) (hd : ∀ q ∈ (Tr.node l p r).ps, x.dom q) (hl : (Tr.node l p r).ps.length ≤ 1024)
    (ihl' : PartC Try.prog 37 t mb x c l) (ihr' : PartC Try.prog 37 t mb x c r)
    (N : Nat) (M : Nat → Blk) (a b : Int) (a0 : -1000000 ≤ a) (a1 : a ≤ 1000000) (b0 : -1000000 ≤ b) (b1 : b ≤ 1000000) (h : TM t mb M x) (hk : ¬ max a 0 ≥ min b ((Tr.node l p r).ps.length : Int) ∧ max a 0 = 0 ∧ ¬ min b ((Tr.node l p r).ps.length : Int) = ((Tr.node l p r).ps.length : Int) ∧ max a 0 ≤ (l.ps.length : Int) ∧ ¬ (l.ps.length : Int) < min b ((Tr.node l p r).ps.length : Int)) :
    RetS Try.prog 37 [.ptr t 0, pO (Tr.node l p r).root, .int .i64 (c : Int), .int .i64 a, .int .i64 b] N M fun v _ M' => v = eS (cumS x (partS (Tr.node l p r).ps a b) c) ∧ TM t mb M' x ∧ Fr t mb x M M' := by
  obtain ⟨hup, hk0, hk1, hTl, hTr⟩ := hT
  have hpd : x.dom p := hd p (by simp [Tr.ps])
  have dl : ∀ q, l.root = some q → x.dom q := fun q hq => hd q (by simp [Tr.ps, root_mem hq])
  have hlen : (Tr.node l p r).ps.length = l.ps.length + r.ps.length + 1 := by simp [Tr.ps]; omega
  have hsz := hS.2.2.1
  have hsl := hS.1.sizeO
  obtain ⟨L, hL⟩ : ∃ L : Nat, L = (Tr.node l p r).ps.length := ⟨_, rfl⟩
  obtain ⟨kl, hkl⟩ : ∃ kl : Nat, kl = l.ps.length := ⟨_, rfl⟩
  rw [← hL] at hsz
  rw [← hkl] at hsl
  have hmany : ∀ N' M', TM t mb M' x → ∃ r', CallC Try.prog 54 [.ptr p 0] N' M' (.int .i64 (L : Int)) [] r' N' := fun N' M' h' => by
    have := many_c N' h' (some p) (fun q hq => by injection hq with hq; subst hq; exact hpd)
    rw [show x.sizeO (some p) = (x.nd p).size from rfl, hsz] at this; exact this
  have hmanyl : ∀ N' M', TM t mb M' x → ∃ r', CallC Try.prog 54 [pO l.root] N' M' (.int .i64 (kl : Int)) [] r' N' := fun N' M' h' => by
    have := many_c N' h' l.root dl
    rw [hsl] at this; exact this
  obtain ⟨A, hA⟩ : ∃ A, A = pickM true a 0 := ⟨_, rfl⟩
  obtain ⟨B, hB⟩ : ∃ B, B = pickM false b (L : Int) := ⟨_, rfl⟩
  have eA : A = max a 0 := by rw [hA, pick_max]
  have eB : B = min b (L : Int) := by rw [hB, pick_min]
  have eP : partS (Tr.node l p r).ps a b = partS (Tr.node l p r).ps A B := by rw [eA, eB, hL, partS_clamp]
  rw [eP]
  have hP := h.node p hpd
  have hS2 := h.sums p hpd
  have gsum : getL cS (x.nd p).sums (Int.toNat (c : Int)) = cS (cumS x (Tr.node l p r).ps c) := sums_at h hpd hS hc
  have hslen := h.slen p hpd
  unfold sumB at hS2
  unfold PartC at ihl' ihr'
  rw [hslen] at hS2
  simp only [recC, hsz, hk0, hk1] at hP
  obtain ⟨lk, ht⟩ := h.tree
  rw [← hL, ← eA, ← eB] at hk
  rw [← hkl] at hk
  refine RetS.of_body tok mixed Try.func37 (by kernel_rfl) rfl (k := 99) (rs := [.cell 10 42]) (by kernel_rfl) (by kernel_rfl) ?_; intro hN
  have hlt := h.lt hN
  have ltt := hlt t (.inl rfl)
  have ltp := hlt p (.inr (.inr ⟨p, hpd, .inl rfl⟩))
  have lts := hlt (x.sb p) (.inr (.inr ⟨p, hpd, .inr (.inl rfl)⟩))
  have ntp := h.tn p hpd
  have nts := h.nst hpd
  have h1 : ∀ z, TM t mb (setH M N z) x := fun z => h.wk fun q hq => setH_off (by have := hlt q hq; omega) rfl
  have h2 : ∀ z lk', TM t mb (setH (setH M N z) t (.cells (treeC (eL 1 cI x.sc) (pO x.root) (.map mb) lk'))) x := fun z lk' => (h1 z).setTree x.root lk'
  have c1 : ¬ A ≥ B := by omega
  have e1 : IntKind.i64.wrap (IntKind.i64.wrap (A - kl) - 1) = A - kl - 1 := by rw [wi64_id (n := A - kl) (by omega) (by omega), wi64_id (by omega) (by omega)]
  have e2 : IntKind.i64.wrap (IntKind.i64.wrap (B - kl) - 1) = B - kl - 1 := by rw [wi64_id (n := B - kl) (by omega) (by omega), wi64_id (by omega) (by omega)]
  obtain ⟨o, eo⟩ : ∃ o, o = ofVl ((x.vals (x.nd p).vk).getD c Vl0) (x.sc.getD c 0) := ⟨_, rfl⟩
  have pm := partS_mid (l := l.ps) (r := r.ps) (p := p) (a := A) (b := B) (by omega) (by omega)
  rw [← hkl] at pm
  have c2 : (A == 0) = true := by simp; omega
  have c3 : (B == (L : Int)) = false := by simp; omega
  have c4 : A ≤ kl := by omega
  have c5 : ¬ (kl : Int) < B := by omega
  (conv => whnf) <;> repeat' (first | (rw [← hA, ← hB]; conv => whnf) | (rw [e1, e2]; conv => whnf) | (refine CalledS.det (CalledF.lent _ _ _ (.row (setH_at _ _ _) (Nat.le_refl _) .nil) _ _ _ (CallC.of_ret _ _ rfl (Join_ret _ _ _ (ExtL.snoc (ExtL.snoc (ExtL.one _) _) _) (by omega))) ?_); conv => whnf) | (refine CalledS.det (CalledF.lent _ _ _ (.row (setH_at _ _ _) (Nat.le_refl _) .nil) _ _ _ (CallC.of_ret _ _ rfl (Join_ret _ _ _ (ExtL.snoc (ExtL.one _) _) (by omega))) ?_); conv => whnf) | (refine CalledS.post _ (ihl' _ _ A B (by omega) (by omega) (by omega) (by omega) (h2 _ _)) ?_; rintro _ N2 M2 ⟨hv2, t2, f2⟩ l2; obtain ⟨s1, es1⟩ : ∃ s, s = cumS x (partS l.ps A B) c := ⟨_, rfl⟩; rw [← es1] at hv2; subst hv2; have hn2 := (fr_hi hlt f2 (Nat.le_refl _)).trans (setH_off (by omega : N ≠ t) (setH_at _ _ _)); have hP2 := t2.node p hpd; simp only [recC, hsz, hk0, hk1] at hP2; conv => whnf) | (refine CalledS.post _ (ihr' _ _ (A - kl - 1) (B - kl - 1) (by omega) (by omega) (by omega) (by omega) (t2.wk (fun q hq => by have := hlt q hq; repeat' (first | rfl | apply setH_off | omega)))) ?_; rintro _ N3 M3 ⟨hv3, t3, f3⟩ l3; obtain ⟨s2, es2⟩ : ∃ s, s = cumS x (partS r.ps (A - kl - 1) (B - kl - 1)) c := ⟨_, rfl⟩; rw [← es2] at hv3; subst hv3; have hn3 : M3 N = M2 N := (fr_hi hlt f3 (Nat.le_refl _)).trans (by repeat' (first | rfl | apply setH_off | omega)); rw [hn2] at hn3; (first | (have hr3 := fr_hi hlt f3 (q := N2 + 1 + 1) (by omega); rw [setH_at] at hr3) | (have hr3 := fr_hi hlt f3 (q := N2) (by omega); rw [setH_at] at hr3)); conv => whnf) | ((first | refine gA ?_ | refine wN ?_ | refine nA ?_ | refine fA ?_ | refine fB ?_ | refine wC ?_ | refine wD ?_ | refine CalledS.det (CalledF.mk _ _ _ _ ((hmany _ _ (h1 _)).choose_spec) ?_) | refine CalledF.mk _ _ _ _ ((hmany _ _ (h1 _)).choose_spec) ?_ | refine CalledS.det (CalledF.mk _ _ _ _ ((hmanyl _ _ (h2 _ _)).choose_spec) ?_) | refine CalledF.mk _ _ _ _ ((hmanyl _ _ (h2 _ _)).choose_spec) ?_ | refine CalledS.det (CalledF.mk _ _ _ _ ((own_o _ (t2.wk (fun q hq => by have := hlt q hq; repeat' (first | rfl | apply setH_off | omega))) hpd c hc o eo).choose_spec) ?_) | refine CalledF.mk _ _ _ _ ((own_o _ (t2.wk (fun q hq => by have := hlt q hq; repeat' (first | rfl | apply setH_off | omega))) hpd c hc o eo).choose_spec) ?_ | refine fdA ?_ | refine fdB ?_ | refine vC ?_ | refine vD ?_ | refine feA ?_ | refine feB ?_ | refine uC ?_ | refine uD ?_); conv => whnf) | ((first | refine Pick.dec (fun h => ?_) (fun h => ?_) | refine Pick.beq (fun h => ?_) (fun h => ?_) | refine CondF.dec (fun h => ?_) (fun h => ?_) | refine CondF.beq (fun h => ?_) (fun h => ?_) | refine CondF.nb (fun h => ?_) (fun h => ?_) | refine CondF.nd (fun h => ?_) (fun h => ?_) | refine Pick.nd (fun h => ?_) (fun h => ?_) | refine Pick.mk (fun h => ?_) (fun h => ?_) | refine CondF.mk (fun h => ?_) (fun h => ?_)) <;> conv => whnf))
  all_goals
    refine done_ hN t3 hlt (fun q hq => by repeat' (first | rfl | apply setH_off | omega)) (fun q hq g1 g2 g3 => ?_) ?_ (by omega)
    · rw [f3 q g1 g2 (not_own.1 g3)]
      refine Eq.trans (b := M2 q) (by repeat' (first | rfl | apply setH_off | omega)) ?_
      rw [f2 q g1 g2 (not_own.1 g3)]
      repeat' (first | rfl | apply setH_off | omega)
    · have g1 : SG (x.sc.getD c 0) s1 := es1 ▸ cumS_G _ _ _
      have g2 : SG (x.sc.getD c 0) s2 := es2 ▸ cumS_G _ _ _
      have g3 : SG (x.sc.getD c 0) o := eo ▸ SG_of _ _
      rw [show (Tr.node l p r).ps = l.ps ++ p :: r.ps from rfl, pm, cumS_append, ← es1]
      rw [if_neg (by omega), List.nil_append, ← es2]
      show eS (joinS ([s1] ++ [s2])) = _
      rw [show [s1] ++ [s2] = [s1, s2] from rfl, joinS_two' g1 g2]
set_option maxHeartbeats 40000000 in
theorem part_4 (c : Nat) (hc : c < x.sc.length) (l : Tr) (p : Nat) (r : Tr) (up : Option Nat) (hT : TreeOn x.nd (Tr.node l p r) up) (hS : Says x (Tr.node l p r)) (hd : ∀ q ∈ (Tr.node l p r).ps, x.dom q) (hl : (Tr.node l p r).ps.length ≤ 1024)
    (ihl' : PartC Try.prog 37 t mb x c l) (ihr' : PartC Try.prog 37 t mb x c r)
    (N : Nat) (M : Nat → Blk) (a b : Int) (a0 : -1000000 ≤ a) (a1 : a ≤ 1000000) (b0 : -1000000 ≤ b) (b1 : b ≤ 1000000) (h : TM t mb M x) (hk : ¬ max a 0 ≥ min b ((Tr.node l p r).ps.length : Int) ∧ ¬ max a 0 = 0 ∧ max a 0 ≤ (l.ps.length : Int) ∧ (l.ps.length : Int) < min b ((Tr.node l p r).ps.length : Int)) :
    RetS Try.prog 37 [.ptr t 0, pO (Tr.node l p r).root, .int .i64 (c : Int), .int .i64 a, .int .i64 b] N M fun v _ M' => v = eS (cumS x (partS (Tr.node l p r).ps a b) c) ∧ TM t mb M' x ∧ Fr t mb x M M' := by
  obtain ⟨hup, hk0, hk1, hTl, hTr⟩ := hT
  have hpd : x.dom p := hd p (by simp [Tr.ps])
  have dl : ∀ q, l.root = some q → x.dom q := fun q hq => hd q (by simp [Tr.ps, root_mem hq])
  have hlen : (Tr.node l p r).ps.length = l.ps.length + r.ps.length + 1 := by simp [Tr.ps]; omega
  have hsz := hS.2.2.1
  have hsl := hS.1.sizeO
  obtain ⟨L, hL⟩ : ∃ L : Nat, L = (Tr.node l p r).ps.length := ⟨_, rfl⟩
  obtain ⟨kl, hkl⟩ : ∃ kl : Nat, kl = l.ps.length := ⟨_, rfl⟩
  rw [← hL] at hsz
  rw [← hkl] at hsl
  have hmany : ∀ N' M', TM t mb M' x → ∃ r', CallC Try.prog 54 [.ptr p 0] N' M' (.int .i64 (L : Int)) [] r' N' := fun N' M' h' => by
    have := many_c N' h' (some p) (fun q hq => by injection hq with hq; subst hq; exact hpd)
    rw [show x.sizeO (some p) = (x.nd p).size from rfl, hsz] at this; exact this
  have hmanyl : ∀ N' M', TM t mb M' x → ∃ r', CallC Try.prog 54 [pO l.root] N' M' (.int .i64 (kl : Int)) [] r' N' := fun N' M' h' => by
    have := many_c N' h' l.root dl
    rw [hsl] at this; exact this
  obtain ⟨A, hA⟩ : ∃ A, A = pickM true a 0 := ⟨_, rfl⟩
  obtain ⟨B, hB⟩ : ∃ B, B = pickM false b (L : Int) := ⟨_, rfl⟩
  have eA : A = max a 0 := by rw [hA, pick_max]
  have eB : B = min b (L : Int) := by rw [hB, pick_min]
  have eP : partS (Tr.node l p r).ps a b = partS (Tr.node l p r).ps A B := by rw [eA, eB, hL, partS_clamp]
  rw [eP]
  have hP := h.node p hpd
  have hS2 := h.sums p hpd
  have gsum : getL cS (x.nd p).sums (Int.toNat (c : Int)) = cS (cumS x (Tr.node l p r).ps c) := sums_at h hpd hS hc
  have hslen := h.slen p hpd
  unfold sumB at hS2
  unfold PartC at ihl' ihr'
  rw [hslen] at hS2
  simp only [recC, hsz, hk0, hk1] at hP
  obtain ⟨lk, ht⟩ := h.tree
  rw [← hL, ← eA, ← eB] at hk
  rw [← hkl] at hk
  refine RetS.of_body tok mixed Try.func37 (by kernel_rfl) rfl (k := 99) (rs := [.cell 10 42]) (by kernel_rfl) (by kernel_rfl) ?_; intro hN
  have hlt := h.lt hN
  have ltt := hlt t (.inl rfl)
  have ltp := hlt p (.inr (.inr ⟨p, hpd, .inl rfl⟩))
  have lts := hlt (x.sb p) (.inr (.inr ⟨p, hpd, .inr (.inl rfl)⟩))
  have ntp := h.tn p hpd
  have nts := h.nst hpd
  have h1 : ∀ z, TM t mb (setH M N z) x := fun z => h.wk fun q hq => setH_off (by have := hlt q hq; omega) rfl
  have h2 : ∀ z lk', TM t mb (setH (setH M N z) t (.cells (treeC (eL 1 cI x.sc) (pO x.root) (.map mb) lk'))) x := fun z lk' => (h1 z).setTree x.root lk'
  have c1 : ¬ A ≥ B := by omega
  have e1 : IntKind.i64.wrap (IntKind.i64.wrap (A - kl) - 1) = A - kl - 1 := by rw [wi64_id (n := A - kl) (by omega) (by omega), wi64_id (by omega) (by omega)]
  have e2 : IntKind.i64.wrap (IntKind.i64.wrap (B - kl) - 1) = B - kl - 1 := by rw [wi64_id (n := B - kl) (by omega) (by omega), wi64_id (by omega) (by omega)]
  obtain ⟨o, eo⟩ : ∃ o, o = ofVl ((x.vals (x.nd p).vk).getD c Vl0) (x.sc.getD c 0) := ⟨_, rfl⟩
  have pm := partS_mid (l := l.ps) (r := r.ps) (p := p) (a := A) (b := B) (by omega) (by omega)
  rw [← hkl] at pm
  have c2 : (A == 0) = false := by simp; omega
  have c4 : A ≤ kl := by omega
  have c5 : (kl : Int) < B := by omega
  (conv => whnf) <;> repeat' (first | (rw [← hA, ← hB]; conv => whnf) | (rw [e1, e2]; conv => whnf) | (refine CalledS.det (CalledF.lent _ _ _ (.row (setH_at _ _ _) (Nat.le_refl _) .nil) _ _ _ (CallC.of_ret _ _ rfl (Join_ret _ _ _ (ExtL.snoc (ExtL.snoc (ExtL.one _) _) _) (by omega))) ?_); conv => whnf) | (refine CalledS.det (CalledF.lent _ _ _ (.row (setH_at _ _ _) (Nat.le_refl _) .nil) _ _ _ (CallC.of_ret _ _ rfl (Join_ret _ _ _ (ExtL.snoc (ExtL.one _) _) (by omega))) ?_); conv => whnf) | (refine CalledS.post _ (ihl' _ _ A B (by omega) (by omega) (by omega) (by omega) (h2 _ _)) ?_; rintro _ N2 M2 ⟨hv2, t2, f2⟩ l2; obtain ⟨s1, es1⟩ : ∃ s, s = cumS x (partS l.ps A B) c := ⟨_, rfl⟩; rw [← es1] at hv2; subst hv2; have hn2 := (fr_hi hlt f2 (Nat.le_refl _)).trans (setH_off (by omega : N ≠ t) (setH_at _ _ _)); have hP2 := t2.node p hpd; simp only [recC, hsz, hk0, hk1] at hP2; conv => whnf) | (refine CalledS.post _ (ihr' _ _ (A - kl - 1) (B - kl - 1) (by omega) (by omega) (by omega) (by omega) (t2.wk (fun q hq => by have := hlt q hq; repeat' (first | rfl | apply setH_off | omega)))) ?_; rintro _ N3 M3 ⟨hv3, t3, f3⟩ l3; obtain ⟨s2, es2⟩ : ∃ s, s = cumS x (partS r.ps (A - kl - 1) (B - kl - 1)) c := ⟨_, rfl⟩; rw [← es2] at hv3; subst hv3; have hn3 : M3 N = M2 N := (fr_hi hlt f3 (Nat.le_refl _)).trans (by repeat' (first | rfl | apply setH_off | omega)); rw [hn2] at hn3; (first | (have hr3 := fr_hi hlt f3 (q := N2 + 1 + 1) (by omega); rw [setH_at] at hr3) | (have hr3 := fr_hi hlt f3 (q := N2) (by omega); rw [setH_at] at hr3)); conv => whnf) | ((first | refine gA ?_ | refine wN ?_ | refine nA ?_ | refine fA ?_ | refine fB ?_ | refine wC ?_ | refine wD ?_ | refine CalledS.det (CalledF.mk _ _ _ _ ((hmany _ _ (h1 _)).choose_spec) ?_) | refine CalledF.mk _ _ _ _ ((hmany _ _ (h1 _)).choose_spec) ?_ | refine CalledS.det (CalledF.mk _ _ _ _ ((hmanyl _ _ (h2 _ _)).choose_spec) ?_) | refine CalledF.mk _ _ _ _ ((hmanyl _ _ (h2 _ _)).choose_spec) ?_ | refine CalledS.det (CalledF.mk _ _ _ _ ((own_o _ (t2.wk (fun q hq => by have := hlt q hq; repeat' (first | rfl | apply setH_off | omega))) hpd c hc o eo).choose_spec) ?_) | refine CalledF.mk _ _ _ _ ((own_o _ (t2.wk (fun q hq => by have := hlt q hq; repeat' (first | rfl | apply setH_off | omega))) hpd c hc o eo).choose_spec) ?_ | refine fdA ?_ | refine fdB ?_ | refine vC ?_ | refine vD ?_ | refine feA ?_ | refine feB ?_ | refine uC ?_ | refine uD ?_); conv => whnf) | ((first | refine Pick.dec (fun h => ?_) (fun h => ?_) | refine Pick.beq (fun h => ?_) (fun h => ?_) | refine CondF.dec (fun h => ?_) (fun h => ?_) | refine CondF.beq (fun h => ?_) (fun h => ?_) | refine CondF.nb (fun h => ?_) (fun h => ?_) | refine CondF.nd (fun h => ?_) (fun h => ?_) | refine Pick.nd (fun h => ?_) (fun h => ?_) | refine Pick.mk (fun h => ?_) (fun h => ?_) | refine CondF.mk (fun h => ?_) (fun h => ?_)) <;> conv => whnf))
  all_goals
    refine done_ hN t3 hlt (fun q hq => by repeat' (first | rfl | apply setH_off | omega)) (fun q hq g1 g2 g3 => ?_) ?_ (by omega)
    · rw [f3 q g1 g2 (not_own.1 g3)]
      refine Eq.trans (b := M2 q) (by repeat' (first | rfl | apply setH_off | omega)) ?_
      rw [f2 q g1 g2 (not_own.1 g3)]
      repeat' (first | rfl | apply setH_off | omega)
    · have g1 : SG (x.sc.getD c 0) s1 := es1 ▸ cumS_G _ _ _
      have g2 : SG (x.sc.getD c 0) s2 := es2 ▸ cumS_G _ _ _
      have g3 : SG (x.sc.getD c 0) o := eo ▸ SG_of _ _
      rw [show (Tr.node l p r).ps = l.ps ++ p :: r.ps from rfl, pm, cumS_append, ← es1]
      rw [if_pos ⟨by omega, by omega⟩, cumS_append, cumS_one, ← eo, ← es2]
      show eS (joinS ([s1] ++ [o] ++ [s2])) = _
      rw [show [s1] ++ [o] ++ [s2] = [s1, o, s2] from rfl, joinS_three g1 g3 g2]
set_option maxHeartbeats 40000000 in
theorem part_5 (c : Nat) (hc : c < x.sc.length) (l : Tr) (p : Nat) (r : Tr) (up : Option Nat) (hT : TreeOn x.nd (Tr.node l p r) up) (hS : Says x (Tr.node l p r)) (hd : ∀ q ∈ (Tr.node l p r).ps, x.dom q) (hl : (Tr.node l p r).ps.length ≤ 1024)
    (ihl' : PartC Try.prog 37 t mb x c l) (ihr' : PartC Try.prog 37 t mb x c r)
    (N : Nat) (M : Nat → Blk) (a b : Int) (a0 : -1000000 ≤ a) (a1 : a ≤ 1000000) (b0 : -1000000 ≤ b) (b1 : b ≤ 1000000) (h : TM t mb M x) (hk : ¬ max a 0 ≥ min b ((Tr.node l p r).ps.length : Int) ∧ ¬ max a 0 = 0 ∧ max a 0 ≤ (l.ps.length : Int) ∧ ¬ (l.ps.length : Int) < min b ((Tr.node l p r).ps.length : Int)) :
    RetS Try.prog 37 [.ptr t 0, pO (Tr.node l p r).root, .int .i64 (c : Int), .int .i64 a, .int .i64 b] N M fun v _ M' => v = eS (cumS x (partS (Tr.node l p r).ps a b) c) ∧ TM t mb M' x ∧ Fr t mb x M M' := by
  obtain ⟨hup, hk0, hk1, hTl, hTr⟩ := hT
  have hpd : x.dom p := hd p (by simp [Tr.ps])
  have dl : ∀ q, l.root = some q → x.dom q := fun q hq => hd q (by simp [Tr.ps, root_mem hq])
  have hlen : (Tr.node l p r).ps.length = l.ps.length + r.ps.length + 1 := by simp [Tr.ps]; omega
  have hsz := hS.2.2.1
  have hsl := hS.1.sizeO
  obtain ⟨L, hL⟩ : ∃ L : Nat, L = (Tr.node l p r).ps.length := ⟨_, rfl⟩
  obtain ⟨kl, hkl⟩ : ∃ kl : Nat, kl = l.ps.length := ⟨_, rfl⟩
  rw [← hL] at hsz
  rw [← hkl] at hsl
  have hmany : ∀ N' M', TM t mb M' x → ∃ r', CallC Try.prog 54 [.ptr p 0] N' M' (.int .i64 (L : Int)) [] r' N' := fun N' M' h' => by
    have := many_c N' h' (some p) (fun q hq => by injection hq with hq; subst hq; exact hpd)
    rw [show x.sizeO (some p) = (x.nd p).size from rfl, hsz] at this; exact this
  have hmanyl : ∀ N' M', TM t mb M' x → ∃ r', CallC Try.prog 54 [pO l.root] N' M' (.int .i64 (kl : Int)) [] r' N' := fun N' M' h' => by
    have := many_c N' h' l.root dl
    rw [hsl] at this; exact this
  obtain ⟨A, hA⟩ : ∃ A, A = pickM true a 0 := ⟨_, rfl⟩
  obtain ⟨B, hB⟩ : ∃ B, B = pickM false b (L : Int) := ⟨_, rfl⟩
  have eA : A = max a 0 := by rw [hA, pick_max]
  have eB : B = min b (L : Int) := by rw [hB, pick_min]
  have eP : partS (Tr.node l p r).ps a b = partS (Tr.node l p r).ps A B := by rw [eA, eB, hL, partS_clamp]
  rw [eP]
  have hP := h.node p hpd
  have hS2 := h.sums p hpd
  have gsum : getL cS (x.nd p).sums (Int.toNat (c : Int)) = cS (cumS x (Tr.node l p r).ps c) := sums_at h hpd hS hc
  have hslen := h.slen p hpd
  unfold sumB at hS2
  unfold PartC at ihl' ihr'
  rw [hslen] at hS2
  simp only [recC, hsz, hk0, hk1] at hP
  obtain ⟨lk, ht⟩ := h.tree
  rw [← hL, ← eA, ← eB] at hk
  rw [← hkl] at hk
  refine RetS.of_body tok mixed Try.func37 (by kernel_rfl) rfl (k := 99) (rs := [.cell 10 42]) (by kernel_rfl) (by kernel_rfl) ?_; intro hN
  have hlt := h.lt hN
  have ltt := hlt t (.inl rfl)
  have ltp := hlt p (.inr (.inr ⟨p, hpd, .inl rfl⟩))
  have lts := hlt (x.sb p) (.inr (.inr ⟨p, hpd, .inr (.inl rfl)⟩))
  have ntp := h.tn p hpd
  have nts := h.nst hpd
  have h1 : ∀ z, TM t mb (setH M N z) x := fun z => h.wk fun q hq => setH_off (by have := hlt q hq; omega) rfl
  have h2 : ∀ z lk', TM t mb (setH (setH M N z) t (.cells (treeC (eL 1 cI x.sc) (pO x.root) (.map mb) lk'))) x := fun z lk' => (h1 z).setTree x.root lk'
  have c1 : ¬ A ≥ B := by omega
  have e1 : IntKind.i64.wrap (IntKind.i64.wrap (A - kl) - 1) = A - kl - 1 := by rw [wi64_id (n := A - kl) (by omega) (by omega), wi64_id (by omega) (by omega)]
  have e2 : IntKind.i64.wrap (IntKind.i64.wrap (B - kl) - 1) = B - kl - 1 := by rw [wi64_id (n := B - kl) (by omega) (by omega), wi64_id (by omega) (by omega)]
  obtain ⟨o, eo⟩ : ∃ o, o = ofVl ((x.vals (x.nd p).vk).getD c Vl0) (x.sc.getD c 0) := ⟨_, rfl⟩
  have pm := partS_mid (l := l.ps) (r := r.ps) (p := p) (a := A) (b := B) (by omega) (by omega)
  rw [← hkl] at pm
  have c2 : (A == 0) = false := by simp; omega
  have c4 : A ≤ kl := by omega
  have c5 : ¬ (kl : Int) < B := by omega
  (conv => whnf) <;> repeat' (first | (rw [← hA, ← hB]; conv => whnf) | (rw [e1, e2]; conv => whnf) | (refine CalledS.det (CalledF.lent _ _ _ (.row (setH_at _ _ _) (Nat.le_refl _) .nil) _ _ _ (CallC.of_ret _ _ rfl (Join_ret _ _ _ (ExtL.snoc (ExtL.snoc (ExtL.one _) _) _) (by omega))) ?_); conv => whnf) | (refine CalledS.det (CalledF.lent _ _ _ (.row (setH_at _ _ _) (Nat.le_refl _) .nil) _ _ _ (CallC.of_ret _ _ rfl (Join_ret _ _ _ (ExtL.snoc (ExtL.one _) _) (by omega))) ?_); conv => whnf) | (refine CalledS.post _ (ihl' _ _ A B (by omega) (by omega) (by omega) (by omega) (h2 _ _)) ?_; rintro _ N2 M2 ⟨hv2, t2, f2⟩ l2; obtain ⟨s1, es1⟩ : ∃ s, s = cumS x (partS l.ps A B) c := ⟨_, rfl⟩; rw [← es1] at hv2; subst hv2; have hn2 := (fr_hi hlt f2 (Nat.le_refl _)).trans (setH_off (by omega : N ≠ t) (setH_at _ _ _)); have hP2 := t2.node p hpd; simp only [recC, hsz, hk0, hk1] at hP2; conv => whnf) | (refine CalledS.post _ (ihr' _ _ (A - kl - 1) (B - kl - 1) (by omega) (by omega) (by omega) (by omega) (t2.wk (fun q hq => by have := hlt q hq; repeat' (first | rfl | apply setH_off | omega)))) ?_; rintro _ N3 M3 ⟨hv3, t3, f3⟩ l3; obtain ⟨s2, es2⟩ : ∃ s, s = cumS x (partS r.ps (A - kl - 1) (B - kl - 1)) c := ⟨_, rfl⟩; rw [← es2] at hv3; subst hv3; have hn3 : M3 N = M2 N := (fr_hi hlt f3 (Nat.le_refl _)).trans (by repeat' (first | rfl | apply setH_off | omega)); rw [hn2] at hn3; (first | (have hr3 := fr_hi hlt f3 (q := N2 + 1 + 1) (by omega); rw [setH_at] at hr3) | (have hr3 := fr_hi hlt f3 (q := N2) (by omega); rw [setH_at] at hr3)); conv => whnf) | ((first | refine gA ?_ | refine wN ?_ | refine nA ?_ | refine fA ?_ | refine fB ?_ | refine wC ?_ | refine wD ?_ | refine CalledS.det (CalledF.mk _ _ _ _ ((hmany _ _ (h1 _)).choose_spec) ?_) | refine CalledF.mk _ _ _ _ ((hmany _ _ (h1 _)).choose_spec) ?_ | refine CalledS.det (CalledF.mk _ _ _ _ ((hmanyl _ _ (h2 _ _)).choose_spec) ?_) | refine CalledF.mk _ _ _ _ ((hmanyl _ _ (h2 _ _)).choose_spec) ?_ | refine CalledS.det (CalledF.mk _ _ _ _ ((own_o _ (t2.wk (fun q hq => by have := hlt q hq; repeat' (first | rfl | apply setH_off | omega))) hpd c hc o eo).choose_spec) ?_) | refine CalledF.mk _ _ _ _ ((own_o _ (t2.wk (fun q hq => by have := hlt q hq; repeat' (first | rfl | apply setH_off | omega))) hpd c hc o eo).choose_spec) ?_ | refine fdA ?_ | refine fdB ?_ | refine vC ?_ | refine vD ?_ | refine feA ?_ | refine feB ?_ | refine uC ?_ | refine uD ?_); conv => whnf) | ((first | refine Pick.dec (fun h => ?_) (fun h => ?_) | refine Pick.beq (fun h => ?_) (fun h => ?_) | refine CondF.dec (fun h => ?_) (fun h => ?_) | refine CondF.beq (fun h => ?_) (fun h => ?_) | refine CondF.nb (fun h => ?_) (fun h => ?_) | refine CondF.nd (fun h => ?_) (fun h => ?_) | refine Pick.nd (fun h => ?_) (fun h => ?_) | refine Pick.mk (fun h => ?_) (fun h => ?_) | refine CondF.mk (fun h => ?_) (fun h => ?_)) <;> conv => whnf))
  all_goals
    refine done_ hN t3 hlt (fun q hq => by repeat' (first | rfl | apply setH_off | omega)) (fun q hq g1 g2 g3 => ?_) ?_ (by omega)
    · rw [f3 q g1 g2 (not_own.1 g3)]
      refine Eq.trans (b := M2 q) (by repeat' (first | rfl | apply setH_off | omega)) ?_
      rw [f2 q g1 g2 (not_own.1 g3)]
      repeat' (first | rfl | apply setH_off | omega)
    · have g1 : SG (x.sc.getD c 0) s1 := es1 ▸ cumS_G _ _ _
      have g2 : SG (x.sc.getD c 0) s2 := es2 ▸ cumS_G _ _ _
      have g3 : SG (x.sc.getD c 0) o := eo ▸ SG_of _ _
      rw [show (Tr.node l p r).ps = l.ps ++ p :: r.ps from rfl, pm, cumS_append, ← es1]
      rw [if_neg (by omega), List.nil_append, ← es2]
      show eS (joinS ([s1] ++ [s2])) = _
      rw [show [s1] ++ [s2] = [s1, s2] from rfl, joinS_two' g1 g2]
set_option maxHeartbeats 40000000 in
theorem part_6 (c : Nat) (hc : c < x.sc.length) (l : Tr) (p : Nat) (r : Tr) (up : Option Nat) (hT : TreeOn x.nd (Tr.node l p r) up) (hS : Says x (Tr.node l p r)) (hd : ∀ q ∈ (Tr.node l p r).ps, x.dom q) (hl : (Tr.node l p r).ps.length ≤ 1024)
    (ihl' : PartC Try.prog 37 t mb x c l) (ihr' : PartC Try.prog 37 t mb x c r)
    (N : Nat) (M : Nat → Blk) (a b : Int) (a0 : -1000000 ≤ a) (a1 : a ≤ 1000000) (b0 : -1000000 ≤ b) (b1 : b ≤ 1000000) (h : TM t mb M x) (hk : ¬ max a 0 ≥ min b ((Tr.node l p r).ps.length : Int) ∧ ¬ max a 0 = 0 ∧ ¬ max a 0 ≤ (l.ps.length : Int) ∧ (l.ps.length : Int) < min b ((Tr.node l p r).ps.length : Int)) :
    RetS Try.prog 37 [.ptr t 0, pO (Tr.node l p r).root, .int .i64 (c : Int), .int .i64 a, .int .i64 b] N M fun v _ M' => v = eS (cumS x (partS (Tr.node l p r).ps a b) c) ∧ TM t mb M' x ∧ Fr t mb x M M' := by
  obtain ⟨hup, hk0, hk1, hTl, hTr⟩ := hT
  have hpd : x.dom p := hd p (by simp [Tr.ps])
  have dl : ∀ q, l.root = some q → x.dom q := fun q hq => hd q (by simp [Tr.ps, root_mem hq])
  have hlen : (Tr.node l p r).ps.length = l.ps.length + r.ps.length + 1 := by simp [Tr.ps]; omega
  have hsz := hS.2.2.1
  have hsl := hS.1.sizeO
  obtain ⟨L, hL⟩ : ∃ L : Nat, L = (Tr.node l p r).ps.length := ⟨_, rfl⟩
  obtain ⟨kl, hkl⟩ : ∃ kl : Nat, kl = l.ps.length := ⟨_, rfl⟩
  rw [← hL] at hsz
  rw [← hkl] at hsl
  have hmany : ∀ N' M', TM t mb M' x → ∃ r', CallC Try.prog 54 [.ptr p 0] N' M' (.int .i64 (L : Int)) [] r' N' := fun N' M' h' => by
    have := many_c N' h' (some p) (fun q hq => by injection hq with hq; subst hq; exact hpd)
    rw [show x.sizeO (some p) = (x.nd p).size from rfl, hsz] at this; exact this
  have hmanyl : ∀ N' M', TM t mb M' x → ∃ r', CallC Try.prog 54 [pO l.root] N' M' (.int .i64 (kl : Int)) [] r' N' := fun N' M' h' => by
    have := many_c N' h' l.root dl
    rw [hsl] at this; exact this
  obtain ⟨A, hA⟩ : ∃ A, A = pickM true a 0 := ⟨_, rfl⟩
  obtain ⟨B, hB⟩ : ∃ B, B = pickM false b (L : Int) := ⟨_, rfl⟩
  have eA : A = max a 0 := by rw [hA, pick_max]
  have eB : B = min b (L : Int) := by rw [hB, pick_min]
  have eP : partS (Tr.node l p r).ps a b = partS (Tr.node l p r).ps A B := by rw [eA, eB, hL, partS_clamp]
  rw [eP]
  have hP := h.node p hpd
  have hS2 := h.sums p hpd
  have gsum : getL cS (x.nd p).sums (Int.toNat (c : Int)) = cS (cumS x (Tr.node l p r).ps c) := sums_at h hpd hS hc
  have hslen := h.slen p hpd
  unfold sumB at hS2
  unfold PartC at ihl' ihr'
  rw [hslen] at hS2
  simp only [recC, hsz, hk0, hk1] at hP
  obtain ⟨lk, ht⟩ := h.tree
  rw [← hL, ← eA, ← eB] at hk
  rw [← hkl] at hk
  refine RetS.of_body tok mixed Try.func37 (by kernel_rfl) rfl (k := 99) (rs := [.cell 10 42]) (by kernel_rfl) (by kernel_rfl) ?_; intro hN
  have hlt := h.lt hN
  have ltt := hlt t (.inl rfl)
  have ltp := hlt p (.inr (.inr ⟨p, hpd, .inl rfl⟩))
  have lts := hlt (x.sb p) (.inr (.inr ⟨p, hpd, .inr (.inl rfl)⟩))
  have ntp := h.tn p hpd
  have nts := h.nst hpd
  have h1 : ∀ z, TM t mb (setH M N z) x := fun z => h.wk fun q hq => setH_off (by have := hlt q hq; omega) rfl
  have h2 : ∀ z lk', TM t mb (setH (setH M N z) t (.cells (treeC (eL 1 cI x.sc) (pO x.root) (.map mb) lk'))) x := fun z lk' => (h1 z).setTree x.root lk'
  have c1 : ¬ A ≥ B := by omega
  have e1 : IntKind.i64.wrap (IntKind.i64.wrap (A - kl) - 1) = A - kl - 1 := by rw [wi64_id (n := A - kl) (by omega) (by omega), wi64_id (by omega) (by omega)]
  have e2 : IntKind.i64.wrap (IntKind.i64.wrap (B - kl) - 1) = B - kl - 1 := by rw [wi64_id (n := B - kl) (by omega) (by omega), wi64_id (by omega) (by omega)]
  obtain ⟨o, eo⟩ : ∃ o, o = ofVl ((x.vals (x.nd p).vk).getD c Vl0) (x.sc.getD c 0) := ⟨_, rfl⟩
  have pm := partS_mid (l := l.ps) (r := r.ps) (p := p) (a := A) (b := B) (by omega) (by omega)
  rw [← hkl] at pm
  have c2 : (A == 0) = false := by simp; omega
  have c4 : ¬ A ≤ kl := by omega
  have c5 : (kl : Int) < B := by omega
  (conv => whnf) <;> repeat' (first | (rw [← hA, ← hB]; conv => whnf) | (rw [e1, e2]; conv => whnf) | (refine CalledS.det (CalledF.lent _ _ _ (.row (setH_at _ _ _) (Nat.le_refl _) .nil) _ _ _ (CallC.of_ret _ _ rfl (Join_ret _ _ _ (ExtL.snoc (ExtL.snoc (ExtL.one _) _) _) (by omega))) ?_); conv => whnf) | (refine CalledS.det (CalledF.lent _ _ _ (.row (setH_at _ _ _) (Nat.le_refl _) .nil) _ _ _ (CallC.of_ret _ _ rfl (Join_ret _ _ _ (ExtL.snoc (ExtL.one _) _) (by omega))) ?_); conv => whnf) | (refine CalledS.post _ (ihl' _ _ A B (by omega) (by omega) (by omega) (by omega) (h2 _ _)) ?_; rintro _ N2 M2 ⟨hv2, t2, f2⟩ l2; obtain ⟨s1, es1⟩ : ∃ s, s = cumS x (partS l.ps A B) c := ⟨_, rfl⟩; rw [← es1] at hv2; subst hv2; have hn2 := (fr_hi hlt f2 (Nat.le_refl _)).trans (setH_off (by omega : N ≠ t) (setH_at _ _ _)); have hP2 := t2.node p hpd; simp only [recC, hsz, hk0, hk1] at hP2; conv => whnf) | (refine CalledS.post _ (ihr' _ _ (A - kl - 1) (B - kl - 1) (by omega) (by omega) (by omega) (by omega) (t2.wk (fun q hq => by have := hlt q hq; repeat' (first | rfl | apply setH_off | omega)))) ?_; rintro _ N3 M3 ⟨hv3, t3, f3⟩ l3; obtain ⟨s2, es2⟩ : ∃ s, s = cumS x (partS r.ps (A - kl - 1) (B - kl - 1)) c := ⟨_, rfl⟩; rw [← es2] at hv3; subst hv3; have hn3 : M3 N = M2 N := (fr_hi hlt f3 (Nat.le_refl _)).trans (by repeat' (first | rfl | apply setH_off | omega)); rw [hn2] at hn3; (first | (have hr3 := fr_hi hlt f3 (q := N2 + 1 + 1) (by omega); rw [setH_at] at hr3) | (have hr3 := fr_hi hlt f3 (q := N2) (by omega); rw [setH_at] at hr3)); conv => whnf) | ((first | refine gA ?_ | refine wN ?_ | refine nA ?_ | refine fA ?_ | refine fB ?_ | refine wC ?_ | refine wD ?_ | refine CalledS.det (CalledF.mk _ _ _ _ ((hmany _ _ (h1 _)).choose_spec) ?_) | refine CalledF.mk _ _ _ _ ((hmany _ _ (h1 _)).choose_spec) ?_ | refine CalledS.det (CalledF.mk _ _ _ _ ((hmanyl _ _ (h2 _ _)).choose_spec) ?_) | refine CalledF.mk _ _ _ _ ((hmanyl _ _ (h2 _ _)).choose_spec) ?_ | refine CalledS.det (CalledF.mk _ _ _ _ ((own_o _ (t2.wk (fun q hq => by have := hlt q hq; repeat' (first | rfl | apply setH_off | omega))) hpd c hc o eo).choose_spec) ?_) | refine CalledF.mk _ _ _ _ ((own_o _ (t2.wk (fun q hq => by have := hlt q hq; repeat' (first | rfl | apply setH_off | omega))) hpd c hc o eo).choose_spec) ?_ | refine fdA ?_ | refine fdB ?_ | refine vC ?_ | refine vD ?_ | refine feA ?_ | refine feB ?_ | refine uC ?_ | refine uD ?_); conv => whnf) | ((first | refine Pick.dec (fun h => ?_) (fun h => ?_) | refine Pick.beq (fun h => ?_) (fun h => ?_) | refine CondF.dec (fun h => ?_) (fun h => ?_) | refine CondF.beq (fun h => ?_) (fun h => ?_) | refine CondF.nb (fun h => ?_) (fun h => ?_) | refine CondF.nd (fun h => ?_) (fun h => ?_) | refine Pick.nd (fun h => ?_) (fun h => ?_) | refine Pick.mk (fun h => ?_) (fun h => ?_) | refine CondF.mk (fun h => ?_) (fun h => ?_)) <;> conv => whnf))
  all_goals
    refine done_ hN t3 hlt (fun q hq => by repeat' (first | rfl | apply setH_off | omega)) (fun q hq g1 g2 g3 => ?_) ?_ (by omega)
    · rw [f3 q g1 g2 (not_own.1 g3)]
      refine Eq.trans (b := M2 q) (by repeat' (first | rfl | apply setH_off | omega)) ?_
      rw [f2 q g1 g2 (not_own.1 g3)]
      repeat' (first | rfl | apply setH_off | omega)
    · have g1 : SG (x.sc.getD c 0) s1 := es1 ▸ cumS_G _ _ _
      have g2 : SG (x.sc.getD c 0) s2 := es2 ▸ cumS_G _ _ _
      have g3 : SG (x.sc.getD c 0) o := eo ▸ SG_of _ _
      rw [show (Tr.node l p r).ps = l.ps ++ p :: r.ps from rfl, pm, cumS_append, ← es1]
      rw [if_neg (by omega), List.nil_append, ← es2]
      show eS (joinS ([s1] ++ [s2])) = _
      rw [show [s1] ++ [s2] = [s1, s2] from rfl, joinS_two' g1 g2]
end
end Go.Proofs.Ytafiechoplbieaa

