/- aggtree: Query, Sum. -/
import Derived.Test.YtafiechoplbieaaAmTj
set_option linter.unusedVariables false
set_option linter.unusedSimpArgs false
set_option maxRecDepth 100000
namespace Go.Proofs.Ytafiechoplbieaa
open Go.AM
section
variable {t mb : Nat} {M : Nat → Blk} {x : Tst} {T : Tr}
set_option maxHeartbeats 4000000 in
theorem query_s (N : Nat) (h : TM t mb M x) (hW : Whole x T) (c : Nat) (hc : c < x.sc.length) (a b : Nat) (ha : a ≤ b) (hb : b ≤ T.ps.length) : RetS Try.prog 11 [.ptr t 0, .int .i64 (c : Int), .int .i64 (a : Int), .int .i64 (b : Int)] N M fun v _ M' => v = .tup [eS (cumS x (partS T.ps a b) c), .int .i64 0] ∧ TM t mb M' x ∧ Fr t mb x M M' := by
  obtain ⟨lk, ht⟩ := h.tree
  have hbl := hW.by_.len
  have hfew := hW.few
  have hroot : pO x.root = pO T.root := by rw [hW.on.root]; rfl
  rw [hroot] at ht
  have hpart := part_s (t := t) (mb := mb) c hc T none hW.on.tree hW.says (fun p hp => hW.on.dom p (List.mem_append_left _ hp)) hfew
  unfold PartC at hpart
  have hcol := fun N' M' (h' : TM t mb M' x) => (column_c N' h' (c : Int))
  rw [show decide (0 ≤ (c : Int) ∧ (c : Int) < x.sc.length) = true by simp; omega] at hcol
  have hlen := fun N' M' (h' : TM t mb M' x) => (len_c N' h')
  rw [hbl] at hlen
  refine RetS.of_body tok mixed Try.func11 (by kernel_rfl) rfl (k := 44) (rs := [.cell 8 42, .tmp 9]) (by kernel_rfl) (by kernel_rfl) ?_; intro hN
  have hlt := h.lt hN
  have ltt := hlt t (.inl rfl)
  have h1 : ∀ z, TM t mb (setH M N z) x := fun z => h.wk fun q hq => setH_off (by have := hlt q hq; omega) rfl
  (conv => whnf) <;> repeat' (first | (refine CalledS.post _ (hpart _ _ a b (by omega) (by omega) (by omega) (by omega) (h1 _)) ?_; rintro _ N2 M2 ⟨hv2, t2, f2⟩ l2; obtain ⟨s1, es1⟩ : ∃ s, s = cumS x (partS T.ps a b) c := ⟨_, rfl⟩; rw [← es1] at hv2; subst hv2; have hn2 := (fr_hi hlt f2 (Nat.le_refl _)).trans (setH_at _ _ _); conv => whnf) | ((first | refine gA ?_ | refine wN ?_ | refine nA ?_ | refine fA ?_ | refine fB ?_ | refine wC ?_ | refine wD ?_ | refine CalledS.det (CalledF.mk _ _ _ _ (none_c _ (h1 _)) ?_) | refine CalledF.mk _ _ _ _ (none_c _ (h1 _)) ?_ | refine CalledS.det (CalledF.mk _ _ _ _ (hcol _ _ (h1 _)) ?_) | refine CalledF.mk _ _ _ _ (hcol _ _ (h1 _)) ?_ | refine CalledS.det (CalledF.mk _ _ _ _ (hlen _ _ (h1 _)) ?_) | refine CalledF.mk _ _ _ _ (hlen _ _ (h1 _)) ?_ | refine fdA ?_ | refine fdB ?_ | refine vC ?_ | refine vD ?_ | refine feA ?_ | refine feB ?_ | refine uC ?_ | refine uD ?_); conv => whnf) | ((first | refine Pick.dec (fun h => ?_) (fun h => ?_) | refine Pick.beq (fun h => ?_) (fun h => ?_) | refine CondF.dec (fun h => ?_) (fun h => ?_) | refine CondF.beq (fun h => ?_) (fun h => ?_) | refine CondF.nb (fun h => ?_) (fun h => ?_) | refine CondF.nd (fun h => ?_) (fun h => ?_) | refine Pick.nd (fun h => ?_) (fun h => ?_) | refine Pick.mk (fun h => ?_) (fun h => ?_) | refine CondF.mk (fun h => ?_) (fun h => ?_)) <;> conv => whnf))
  rw [← es1]
  exact done_ hN t2 hlt (fun q hq => setH_off (by omega) rfl) (fun q hq g1 g2 g3 => (f2 q g1 g2 (not_own.1 g3)).trans (setH_off (by omega) rfl)) rfl (by omega)
theorem query0_s (N : Nat) (h : TM t mb M x) (hW : Whole x T) (c : Nat) (hc : c < x.sc.length) (b : Nat) (hb : b ≤ T.ps.length) : RetS Try.prog 11 [.ptr t 0, .int .i64 (c : Int), .int .i64 0, .int .i64 (b : Int)] N M fun v _ M' => v = .tup [eS (cumS x (partS T.ps (0 : Nat) b) c), .int .i64 0] ∧ TM t mb M' x ∧ Fr t mb x M M' := query_s N h hW c hc 0 b (Nat.zero_le _) hb
theorem below_c (N : Nat) (h : TM t mb M x) (c : Nat) (hc : c < x.sc.length) (hS : Says x T) (hd : ∀ p ∈ T.ps, x.dom p) : ∃ r, CallC Try.prog 39 [pO T.root, .int .i64 (c : Int)] N M (eS (cumS x T.ps c)) [] r N := by
  cases T with
  | nil => exact ⟨_, below_nil N M c⟩
  | node l p r =>
    have hpd : x.dom p := hd p (by simp [Tr.ps])
    have hP := h.node p hpd
    have hs := h.slen p hpd
    have e2 : (x.nd p).sums.getD c Sm0 = cumS x (Tr.node l p r).ps c := by
      rw [hS.2.2.2]; unfold cumsS
      rw [List.getD_eq_getElem?_getD, List.getElem?_map, List.getElem?_range hc]; rfl
    rw [← e2]
    simp only [recC] at hP
    exact ⟨_, below_at N c (by omega) hs.symm hP (h.sums p hpd)⟩
set_option maxHeartbeats 4000000 in
theorem sum_s (N : Nat) (h : TM t mb M x) (hW : Whole x T) (c : Nat) (hc : c < x.sc.length) : RetS Try.prog 12 [.ptr t 0, .int .i64 (c : Int)] N M fun v _ M' => v = .tup [eS (cumS x T.ps c), .int .i64 0] ∧ M' = M := by
  obtain ⟨lk, ht⟩ := h.tree
  have hroot : pO x.root = pO T.root := by rw [hW.on.root]; rfl
  rw [hroot] at ht
  have hcol := fun N' M' (h' : TM t mb M' x) => (column_c N' h' (c : Int))
  rw [show decide (0 ≤ (c : Int) ∧ (c : Int) < x.sc.length) = true by simp; omega] at hcol
  have hbel := fun N' M' (h' : TM t mb M' x) => below_c N' h' c hc hW.says (fun p hp => hW.on.dom p (List.mem_append_left _ hp))
  obtain ⟨s1, es1⟩ : ∃ s, s = cumS x T.ps c := ⟨_, rfl⟩
  rw [← es1] at hbel ⊢
  have hj : joinS [s1] = s1 := by
    show two Sm0 s1 = _
    rw [es1]; exact two_0l (cumS_G _ _ _)
  refine RetS.of_body tok mixed Try.func12 (by kernel_rfl) rfl (k := 24) (rs := [.cell 4 42, .tmp 5]) (by kernel_rfl) (by kernel_rfl) ?_; intro hN
  have hlt := h.lt hN
  have ltt := hlt t (.inl rfl)
  have h1 : ∀ z, TM t mb (setH M N z) x := fun z => h.wk fun q hq => setH_off (by have := hlt q hq; omega) rfl
  (conv => whnf) <;> repeat' (first | (refine CalledS.det (CalledF.lent _ _ _ (.row (setH_at _ _ _) (Nat.le_refl _) .nil) _ _ _ (CallC.of_ret _ _ rfl (Join_ret _ _ _ (ExtL.one _) (by omega))) ?_); rw [hj]; conv => whnf) | ((first | refine gA ?_ | refine wN ?_ | refine nA ?_ | refine fA ?_ | refine fB ?_ | refine wC ?_ | refine wD ?_ | refine CalledS.det (CalledF.mk _ _ _ _ (none_c _ (h1 _)) ?_) | refine CalledF.mk _ _ _ _ (none_c _ (h1 _)) ?_ | refine CalledS.det (CalledF.mk _ _ _ _ (hcol _ _ (h1 _)) ?_) | refine CalledF.mk _ _ _ _ (hcol _ _ (h1 _)) ?_ | refine CalledS.det (CalledF.mk _ _ _ _ ((hbel _ _ (h1 _)).choose_spec) ?_) | refine CalledF.mk _ _ _ _ ((hbel _ _ (h1 _)).choose_spec) ?_ | refine fdA ?_ | refine fdB ?_ | refine vC ?_ | refine vD ?_ | refine feA ?_ | refine feB ?_ | refine uC ?_ | refine uD ?_); conv => whnf) | ((first | refine Pick.dec (fun h => ?_) (fun h => ?_) | refine Pick.beq (fun h => ?_) (fun h => ?_) | refine CondF.dec (fun h => ?_) (fun h => ?_) | refine CondF.beq (fun h => ?_) (fun h => ?_) | refine CondF.nb (fun h => ?_) (fun h => ?_) | refine CondF.nd (fun h => ?_) (fun h => ?_) | refine Pick.nd (fun h => ?_) (fun h => ?_) | refine Pick.mk (fun h => ?_) (fun h => ?_) | refine CondF.mk (fun h => ?_) (fun h => ?_)) <;> conv => whnf))
  exact .mk (N + 1 + 1) M ⟨rfl, rfl⟩ (by (intro b; simp only [setH, applyF]; repeat' split) <;> first | exact .inl rfl | exact .inr (.inl rfl) | (exact .inr (.inl (hN _ (by omega)))) | (exfalso; omega) | (subst_vars; simp_all; done)) (by omega) (Nat.le_refl _)

end
end Go.Proofs.Ytafiechoplbieaa

set_option linter.unusedVariables false
set_option linter.unusedSimpArgs false
set_option maxRecDepth 100000
namespace Go.Proofs.Ytafiechoplbieaa
open Go.AM
/-- nothing -/
def tst0 (sc : List Int) : Tst := { sc := sc, root := none, by_ := [], nd := fun _ => ⟨0, 0, 0, [], none, none, none⟩, sb := fun _ => 0, vals := fun _ => [], dom := fun _ => False }
theorem new_long (N : Nat) (M : Nat → Blk) (n : Nat) (g : Nat → List Val) (hn : 64 < n) : RetS Try.prog 7 [.ext 1 n g] N M fun v _ M' => v = .tup [.nilp, .int .i64 3] ∧ M' = M := by
  refine RetS.of_body tok mixed Try.func7 (by kernel_rfl) rfl (k := 12) (rs := [.tmp 2, .tmp 3]) (by kernel_rfl) (by kernel_rfl) ?_; intro hN
  (conv => whnf) <;> repeat' (first | ((first | refine gA ?_ | refine wN ?_ | refine nA ?_ | refine fA ?_ | refine fB ?_ | refine wC ?_ | refine wD ?_ | refine fdA ?_ | refine fdB ?_ | refine vC ?_ | refine vD ?_ | refine feA ?_ | refine feB ?_ | refine uC ?_ | refine uD ?_); conv => whnf) | ((first | refine Pick.dec (fun h => ?_) (fun h => ?_) | refine Pick.beq (fun h => ?_) (fun h => ?_) | refine CondF.dec (fun h => ?_) (fun h => ?_) | refine CondF.beq (fun h => ?_) (fun h => ?_) | refine CondF.nb (fun h => ?_) (fun h => ?_) | refine CondF.nd (fun h => ?_) (fun h => ?_) | refine Pick.nd (fun h => ?_) (fun h => ?_) | refine Pick.mk (fun h => ?_) (fun h => ?_) | refine CondF.mk (fun h => ?_) (fun h => ?_)) <;> conv => whnf))
  exact .mk N M ⟨rfl, rfl⟩ (Less.refl _) (by omega) (Nat.le_refl _)
theorem new_s (N : Nat) (M : Nat → Blk) (sc : List Int) (hn : sc.length ≤ 64) : RetS Try.prog 7 [.ext 1 sc.length (getL cI sc)] N M fun v _ M' => ∃ t mb, v = .tup [.ptr t 0, .int .i64 0] ∧ TM t mb M' (tst0 sc) ∧ M t = .gone ∧ M mb = .gone ∧ ∀ q, M q ≠ .gone → M' q = M q := by
  have hcl : ∀ N' M', CallC Try.prog 32 [.ext 1 sc.length (getL cI sc)] N' M' (.ext 1 sc.length (getL cI sc)) [] [] N' := fun N' M' => CallC.of_ret N' M' rfl (tcloneI_ret _ _ (by omega))
  refine RetS.of_body tok mixed Try.func7 (by kernel_rfl) rfl (k := 12) (rs := [.tmp 2, .tmp 3]) (by kernel_rfl) (by kernel_rfl) ?_; intro hN
  (conv => whnf) <;> repeat' (first | ((first | refine gA ?_ | refine wN ?_ | refine nA ?_ | refine fA ?_ | refine fB ?_ | refine wC ?_ | refine wD ?_ | refine CalledS.det (CalledF.mk _ _ _ _ (hcl _ _) ?_) | refine CalledF.mk _ _ _ _ (hcl _ _) ?_ | refine fdA ?_ | refine fdB ?_ | refine vC ?_ | refine vD ?_ | refine feA ?_ | refine feB ?_ | refine uC ?_ | refine uD ?_); conv => whnf) | ((first | refine Pick.dec (fun h => ?_) (fun h => ?_) | refine Pick.beq (fun h => ?_) (fun h => ?_) | refine CondF.dec (fun h => ?_) (fun h => ?_) | refine CondF.beq (fun h => ?_) (fun h => ?_) | refine CondF.nb (fun h => ?_) (fun h => ?_) | refine CondF.nd (fun h => ?_) (fun h => ?_) | refine Pick.nd (fun h => ?_) (fun h => ?_) | refine Pick.mk (fun h => ?_) (fun h => ?_) | refine CondF.mk (fun h => ?_) (fun h => ?_)) <;> conv => whnf))
  refine .mk (N + 1 + 1) _ ⟨N + 1, N, rfl, ⟨⟨0, setH_at _ _ _⟩, (setH_off (by omega) (setH_at _ _ _)).trans rfl, fun p hp => hp.elim, fun p hp => hp.elim, fun p hp => hp.elim, fun p hp => hp.elim, fun p hp => hp.elim, fun p q hp => hp.elim, fun p q hp => hp.elim, fun p hp => hp.elim, hn⟩, hN _ (by omega), hN _ (by omega), fun q hq => ?_⟩ (Less.refl _) (by omega) (Nat.le_refl _)
  have : q < N := by
    rcases Nat.lt_or_ge q N with h | h
    · exact h
    · exact absurd (hN q h) hq
  exact setH_off (by omega) (setH_off (by omega) rfl)
theorem whole0 (sc : List Int) : Whole (tst0 sc) .nil := ⟨⟨trivial, trivial, rfl, by simp [Tr.ps, cps], fun p hp => by simp [Tr.ps, cps] at hp⟩, trivial, ⟨fun id p => by simp [tst0, blook, Tr.ps], rfl⟩, Nat.zero_le _⟩
end Go.Proofs.Ytafiechoplbieaa

