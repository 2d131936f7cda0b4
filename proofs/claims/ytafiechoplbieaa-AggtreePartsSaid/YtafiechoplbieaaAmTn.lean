/- exciselaw06.AggtreeParts. -/
import Derived.Test.YtafiechoplbieaaAmJj
import Derived.Test.YtafiechoplbieaaAmTk
import Derived.Test.YtafiechoplbieaaAmTz
import Derived.Test.YtafiechoplbieaaAmJg
set_option linter.unusedVariables false
set_option linter.unusedSimpArgs false
set_option maxRecDepth 100000
namespace Go.Proofs.Ytafiechoplbieaa
open Go.AM
theorem insE_cases (x : Tst) (k id : Int) (n : Nat) : insE x k id n = 0 ∨ insE x k id n ≠ 0 := by omega
set_option maxHeartbeats 4000000 in
theorem lawParts_long (sc : List Int) (l : List Sop) (a b : Nat) (hs : 64 < sc.length) (N : Nat) (M : Nat → Blk) :
    RetS Try.prog 3 [.ext 1 sc.length (getL cI sc), .ext 7 l.length (getL cOp l), .int .u8 (a : Int), .int .u8 (b : Int)] N M fun v _ _ => v = .bool true := by
  refine RetS.of_body tok mixed Try.func3 (by kernel_rfl) rfl (k := 130) (rs := [.tmp 8]) (by kernel_rfl) (by kernel_rfl) ?_; intro hN
  (conv => whnf) <;> repeat' (first | (refine CalledS.post _ (new_long _ _ _ _ hs) ?_; rintro _ N1 M1 ⟨rfl, rfl⟩ l1; conv => whnf) | ((first | refine gA ?_ | refine wN ?_ | refine nA ?_ | refine fA ?_ | refine fB ?_ | refine wC ?_ | refine wD ?_ | refine CalledS.det (CalledF.mk _ _ _ _ (CallC.of_ret _ _ rfl begun6) ?_) | refine CalledF.mk _ _ _ _ (CallC.of_ret _ _ rfl begun6) ?_ | refine fdA ?_ | refine fdB ?_ | refine vC ?_ | refine vD ?_ | refine feA ?_ | refine feB ?_ | refine uC ?_ | refine uD ?_); conv => whnf) | ((first | refine Pick.dec (fun h => ?_) (fun h => ?_) | refine Pick.beq (fun h => ?_) (fun h => ?_) | refine CondF.dec (fun h => ?_) (fun h => ?_) | refine CondF.beq (fun h => ?_) (fun h => ?_) | refine CondF.nb (fun h => ?_) (fun h => ?_) | refine CondF.nd (fun h => ?_) (fun h => ?_) | refine Pick.nd (fun h => ?_) (fun h => ?_) | refine Pick.mk (fun h => ?_) (fun h => ?_) | refine CondF.mk (fun h => ?_) (fun h => ?_)) <;> conv => whnf))
  exact .mk _ _ rfl (Less.refl _) (by omega) (Nat.le_refl _)
theorem getL_get {α : Type} {enc : α → List Val} {l : List α} {i : Nat} (h : i < l.length) : getL enc l i = enc l[i] := by unfold getL; rw [List.getElem?_eq_getElem h]
set_option maxHeartbeats 4000000 in
theorem lawParts_s (sc : List Int) (l : List Sop) (a b : Nat) (ha : a < 256) (hb : b < 256) (hl : ∀ o ∈ l, o.v.length ≤ 9223372036854775807) (hn : l.length ≤ 9223372036854775807) (hsc : sc.length ≤ 64) (N : Nat) (M : Nat → Blk) :
    RetS Try.prog 3 [.ext 1 sc.length (getL cI sc), .ext 7 l.length (getL cOp l), .int .u8 (a : Int), .int .u8 (b : Int)] N M fun v _ _ => v = .bool true := by
  refine RetS.of_body tok mixed Try.func3 (by kernel_rfl) rfl (k := 130) (rs := [.tmp 8]) (by kernel_rfl) (by kernel_rfl) ?_; intro hN
  (conv => whnf) <;> repeat' (first | (refine CalledS.post _ (new_s _ _ sc hsc) ?_; rintro _ N1 M1 ⟨t, mb, rfl, t1, g1, g2, f1⟩ l1; conv => whnf) | ((first | refine gA ?_ | refine wN ?_ | refine nA ?_ | refine fA ?_ | refine fB ?_ | refine wC ?_ | refine wD ?_ | refine CalledS.det (CalledF.mk _ _ _ _ (CallC.of_ret _ _ rfl begun6) ?_) | refine CalledF.mk _ _ _ _ (CallC.of_ret _ _ rfl begun6) ?_ | refine fdA ?_ | refine fdB ?_ | refine vC ?_ | refine vD ?_ | refine feA ?_ | refine feB ?_ | refine uC ?_ | refine uD ?_); conv => whnf) | ((first | refine Pick.dec (fun h => ?_) (fun h => ?_) | refine Pick.beq (fun h => ?_) (fun h => ?_) | refine CondF.dec (fun h => ?_) (fun h => ?_) | refine CondF.beq (fun h => ?_) (fun h => ?_) | refine CondF.nb (fun h => ?_) (fun h => ?_) | refine CondF.nd (fun h => ?_) (fun h => ?_) | refine Pick.nd (fun h => ?_) (fun h => ?_) | refine Pick.mk (fun h => ?_) (fun h => ?_) | refine CondF.mk (fun h => ?_) (fun h => ?_)) <;> conv => whnf))
  intro I hw hs
  have key : ∀ (m k : Nat) (N1 : Nat) (M1 : Nat → Blk) (x : Tst) (T : Tr), m + k = l.length → N ≤ N1 → TM t mb M1 x → Whole x T → x.sc = sc → I [.ext 1 sc.length (getL cI sc), .und, .int .u8 (a : Int), .int .u8 (b : Int), .und, .und, .und, .und, .bool false, .ptr t 0, .und, .und, .und, .und, .und, .und, .und, .und, .und, .und, .und, .und, .und, .und, .und, .und, .und, .und, .und, .und, .und, .und, .und, .und, .und, .und, .und, .und, .und, .und, .und, .ext 7 l.length (getL cOp l), .int .i64 (l.length : Int), .int .i64 (k : Int), .und, .und, .und, .und, .und, .und, .und, .und, .und, .und, .und, .und, .und, .und, .und, .und, .und, .und, .und, .und, .und, .und, .und, .und, .und, .und, .und, .und, .und, .und, .und, .und, .und, .und, .und, .und, .und, .und, .und, .und, .und, .und, .und, .und, .und, .und, .und, .und, .und, .und, .und, .und, .und, .und, .und, .und, .und, .und, .und, .und, .und, .und, .und, .und, .und, .und, .und, .und, .und, .und, .und, .und, .und, .und, .und, .und, .und, .und, .und, .und, .und, .und, .und, .und, .und, .und] N1 M1 := by
    intro m
    induction m with
    | zero =>
      intro k N1 M1 x T hk hN1 h hW hx
      have hkl : k = l.length := by omega
      subst hkl
      apply hw.know
      intro hN2
      apply hs
      have hlen := len_c N1 h
      rw [hW.by_.len] at hlen
      have hfew := hW.few
      have w1 : IntKind.i64.wrap ((T.ps.length : Int) + 1) = ((T.ps.length + 1 : Nat) : Int) := by rw [wi64_id (by omega) (by omega)]; omega
      obtain ⟨n, hnn⟩ : ∃ n, n = T.ps.length := ⟨_, rfl⟩
      rw [← hnn] at hlen w1 hfew
      obtain ⟨fr, hfr⟩ : ∃ fr, fr = a % (n + 1) := ⟨_, rfl⟩
      have hfl : fr ≤ n := by rw [hfr]; exact Nat.le_of_lt_succ (Nat.mod_lt _ (by omega))
      obtain ⟨to0, hto⟩ : ∃ t, t = b % (n + 1 - fr) := ⟨_, rfl⟩
      have htl : fr + to0 ≤ n := by have := Nat.mod_lt b (show n + 1 - fr > 0 by omega); omega
      have w2 : (IntKind.i64.wrap (a : Int)).tmod ((n + 1 : Nat) : Int) = (fr : Int) := by rw [wi64_id (by omega) (by omega), hfr]; exact (Int.ofNat_tmod a (n + 1)).symm
      have w3 : IntKind.i64.wrap (((n + 1 : Nat) : Int) - (fr : Int)) = ((n + 1 - fr : Nat) : Int) := by rw [wi64_id (by omega) (by omega)]; omega
      have w4 : (IntKind.i64.wrap (b : Int)).tmod ((n + 1 - fr : Nat) : Int) = (to0 : Int) := by rw [wi64_id (by omega) (by omega), hto]; exact (Int.ofNat_tmod b (n + 1 - fr)).symm
      have w5 : IntKind.i64.wrap ((fr : Int) + (to0 : Int)) = ((fr + to0 : Nat) : Int) := by rw [wi64_id (by omega) (by omega)]; omega
      obtain ⟨to, htt⟩ : ∃ t, t = fr + to0 := ⟨_, rfl⟩
      rw [← htt] at w5 htl
      have hft : fr ≤ to := by omega
      clear hfr hto htt
      (conv => whnf) <;> repeat' (first | (rw [w1]; conv => whnf) | (rw [w2]; conv => whnf) | (rw [w3]; conv => whnf) | (rw [w4]; conv => whnf) | (rw [w5]; conv => whnf) | ((first | refine gA ?_ | refine wN ?_ | refine nA ?_ | refine fA ?_ | refine fB ?_ | refine wC ?_ | refine wD ?_ | refine CalledS.det (CalledF.mk _ _ _ _ (hlen) ?_) | refine CalledF.mk _ _ _ _ (hlen) ?_ | refine fdA ?_ | refine fdB ?_ | refine vC ?_ | refine vD ?_ | refine feA ?_ | refine feB ?_ | refine uC ?_ | refine uD ?_); conv => whnf) | ((first | refine Pick.dec (fun h => ?_) (fun h => ?_) | refine Pick.beq (fun h => ?_) (fun h => ?_) | refine CondF.dec (fun h => ?_) (fun h => ?_) | refine CondF.beq (fun h => ?_) (fun h => ?_) | refine CondF.nb (fun h => ?_) (fun h => ?_) | refine CondF.nd (fun h => ?_) (fun h => ?_) | refine Pick.nd (fun h => ?_) (fun h => ?_) | refine Pick.mk (fun h => ?_) (fun h => ?_) | refine CondF.mk (fun h => ?_) (fun h => ?_)) <;> conv => whnf))
      intro I2 hw2 hs2
      have key2 : ∀ (m c : Nat) (N2 : Nat) (M2 : Nat → Blk), m + c = sc.length → N ≤ N2 → TM t mb M2 x → I2 [.und, .und, .und, .und, .und, .und, .und, .und, .bool false, .ptr t 0, .und, .und, .und, .int .i64 (n : Int), .int .i64 (fr : Int), .int .i64 (to : Int), .und, .und, .und, .und, .und, .und, .und, .und, .und, .und, .und, .und, .und, .und, .und, .und, .und, .und, .und, .und, .und, .und, .und, .und, .und, .und, .und, .und, .und, .und, .und, .und, .und, .und, .und, .und, .und, .und, .und, .und, .und, .und, .und, .und, .und, .und, .und, .und, .und, .und, .und, .und, .und, .und, .und, .und, .und, .int .i64 (sc.length : Int), .int .i64 (c : Int), .und, .und, .und, .und, .und, .und, .und, .und, .und, .und, .und, .und, .und, .und, .und, .und, .und, .und, .und, .und, .und, .und, .und, .und, .und, .und, .und, .und, .und, .und, .und, .und, .und, .und, .und, .und, .und, .und, .und, .und, .und, .und, .und, .und, .und, .und, .und, .und, .und, .und, .und, .und, .und, .und, .und] N2 M2 := by
        intro m
        induction m with
        | zero =>
          intro c N2 M2 hc hN3 h2
          apply hs2
          have hcl : c = sc.length := by omega
          subst hcl
          (conv => whnf) <;> repeat' (first | ((first | refine gA ?_ | refine wN ?_ | refine nA ?_ | refine fA ?_ | refine fB ?_ | refine wC ?_ | refine wD ?_ | refine fdA ?_ | refine fdB ?_ | refine vC ?_ | refine vD ?_ | refine feA ?_ | refine feB ?_ | refine uC ?_ | refine uD ?_); conv => whnf) | ((first | refine Pick.dec (fun h => ?_) (fun h => ?_) | refine Pick.beq (fun h => ?_) (fun h => ?_) | refine CondF.dec (fun h => ?_) (fun h => ?_) | refine CondF.beq (fun h => ?_) (fun h => ?_) | refine CondF.nb (fun h => ?_) (fun h => ?_) | refine CondF.nd (fun h => ?_) (fun h => ?_) | refine Pick.nd (fun h => ?_) (fun h => ?_) | refine Pick.mk (fun h => ?_) (fun h => ?_) | refine CondF.mk (fun h => ?_) (fun h => ?_)) <;> conv => whnf))
          exact .mk _ _ rfl (Less.refl _) (by omega) (Nat.le_refl _)
        | succ m ih2 =>
          intro c N2 M2 hc hN3 h2
          have hcx : c < x.sc.length := by rw [hx]; omega
          have hcs : c < sc.length := by omega
          have hI2 : IntKind.i64.wrap ((c : Int) + 1) = ((c + 1 : Nat) : Int) := by rw [wi64_id (by omega) (by omega)]; omega
          apply hw2.know
          intro hN4
          have hlt := h2.lt hN4
          have hp3 : partS T.ps (0 : Nat) fr ++ (partS T.ps fr to ++ partS T.ps to n) = T.ps := by rw [hnn]; exact partS_three hft (by omega)
          apply hs2
          (conv => whnf) <;> repeat' (first | (refine CalledF.lent _ _ _ (.row (setH_at _ _ _) (Nat.le_refl _) .nil) _ _ _ (CallC.of_ret _ _ rfl (rJoin_ret 3 _ [s1, s2, s3] ⟨rfl, fun i h => match i, h with | 0, _ => rfl | 1, _ => rfl | 2, _ => rfl⟩ hG (by omega))) ?_; rw [hj]; conv => whnf) | (refine CalledS.post _ (query0_s _ h2 hW c hcx fr (by omega)) ?_; rintro _ A1 H1 ⟨hv1, u1, f1⟩ m1; obtain ⟨s1, es1⟩ : ∃ s, s = cumS x (partS T.ps (0 : Nat) fr) c := ⟨_, rfl⟩; rw [← es1] at hv1; subst hv1; conv => whnf) | (refine CalledS.post _ (query_s _ (u1.wk (fun q hq => by have := hlt q hq; repeat' (first | rfl | apply setH_off | omega))) hW c hcx fr to (by omega) (by omega)) ?_; rintro _ A2 H2 ⟨hv2, u2, f2⟩ m2; obtain ⟨s2, es2⟩ : ∃ s, s = cumS x (partS T.ps fr to) c := ⟨_, rfl⟩; rw [← es2] at hv2; subst hv2; have k21 := (fr_hi hlt f2 (q := A1) (by omega)).trans (setH_at _ _ _); conv => whnf) | (refine CalledS.post _ (query_s _ (u2.wk (fun q hq => by have := hlt q hq; repeat' (first | rfl | apply setH_off | omega))) hW c hcx to n (by omega) (by omega)) ?_; rintro _ A3 H3 ⟨hv3, u3, f3⟩ m3; obtain ⟨s3, es3⟩ : ∃ s, s = cumS x (partS T.ps to n) c := ⟨_, rfl⟩; rw [← es3] at hv3; subst hv3; have k32 := (fr_hi hlt f3 (q := A2) (by omega)).trans (setH_at _ _ _); have k31 := (fr_hi hlt f3 (q := A1) (by omega)).trans (setH_off (by omega) (setH_off (by omega) k21)); conv => whnf) | (refine CalledS.post _ (sum_s _ (u3.wk (fun q hq => by have := hlt q hq; repeat' (first | rfl | apply setH_off | omega))) hW c hcx) ?_; rintro _ A4 H4 ⟨hv4, rfl⟩ m4; obtain ⟨s4, es4⟩ : ∃ s, s = cumS x T.ps c := ⟨_, rfl⟩; rw [← es4] at hv4; subst hv4; have q1 : SG (x.sc.getD c 0) s1 := es1 ▸ cumS_G _ _ _; have q2 : SG (x.sc.getD c 0) s2 := es2 ▸ cumS_G _ _ _; have q3 : SG (x.sc.getD c 0) s3 := es3 ▸ cumS_G _ _ _; have hG : ∀ s ∈ [s1, s2, s3], SG (x.sc.getD c 0) s := fun s hs => by { simp only [List.mem_cons, List.not_mem_nil, or_false] at hs; rcases hs with h | h | h <;> rw [h] <;> assumption }; have hj : joinS [s1, s2, s3] = s4 := by { rw [joinS_three q1 q2 q3, es1, es2, es3, es4, ← cumS_append, ← cumS_append, hp3] }; conv => whnf) | ((first | refine gA ?_ | refine wN ?_ | refine nA ?_ | refine fA ?_ | refine fB ?_ | refine wC ?_ | refine wD ?_ | refine fdA ?_ | refine fdB ?_ | refine vC ?_ | refine vD ?_ | refine feA ?_ | refine feB ?_ | refine uC ?_ | refine uD ?_); conv => whnf) | ((first | refine Pick.dec (fun h => ?_) (fun h => ?_) | refine Pick.beq (fun h => ?_) (fun h => ?_) | refine CondF.dec (fun h => ?_) (fun h => ?_) | refine CondF.beq (fun h => ?_) (fun h => ?_) | refine CondF.nb (fun h => ?_) (fun h => ?_) | refine CondF.nd (fun h => ?_) (fun h => ?_) | refine Pick.nd (fun h => ?_) (fun h => ?_) | refine Pick.mk (fun h => ?_) (fun h => ?_) | refine CondF.mk (fun h => ?_) (fun h => ?_)) <;> conv => whnf))
          all_goals first
            | (exfalso; simp_all; done)
            | (rw [hI2]
               apply hw2.weak (Weak.mk [false, false, false, false, false, false, false, false, true, true, false, false, false, true, true, true, false, false, false, false, false, false, false, false, false, false, false, false, false, false, false, false, false, false, false, false, false, false, false, false, false, false, false, false, false, false, false, false, false, false, false, false, false, false, false, false, false, false, false, false, false, false, false, false, false, false, false, false, false, false, false, false, false, true, true] (Nat.le_refl _) (Less.refl _))
               exact ih2 (c + 1) _ _ (by omega) (by omega) (u3.wk (fun q hq => by have := hlt q hq; repeat' (first | rfl | apply setH_off | omega))))
      apply hw2.weak (Weak.mk [false, false, false, false, false, false, false, false, true, true, false, false, false, true, true, true, false, false, false, false, false, false, false, false, false, false, false, false, false, false, false, false, false, false, false, false, false, false, false, false, false, false, false, false, false, false, false, false, false, false, false, false, false, false, false, false, false, false, false, false, false, false, false, false, false, false, false, false, false, false, false, false, false, true, true] (Nat.le_refl _) (Less.refl _))
      exact key2 sc.length 0 _ _ (by omega) (by omega) h
    | succ m ih =>
      intro k N1 M1 x T hk hN1 h hW hx
      have hlt : k < l.length := by omega
      obtain ⟨o, ho⟩ : ∃ o, o = l[k] := ⟨_, rfl⟩
      have hg : getL cOp l (Int.toNat (k : Int)) = cOp o := by rw [ho]; exact getL_nat hlt
      have hov := hl o (by rw [ho]; exact List.getElem_mem hlt)
      clear ho
      apply hw.know
      intro hN2
      have hlt := h.lt hN2
      have hT : ∀ z z', TM t mb (setH (setH M1 N1 z) N1 z') x := fun z z' => h.wk fun q hq => setH_off (by have := hlt q hq; omega) (setH_off (by have := hlt q hq; omega) rfl)
      have hI : IntKind.i64.wrap ((k : Int) + 1) = ((k + 1 : Nat) : Int) := by rw [wi64_id (by omega) (by omega)]; omega
      apply hs
      rcases insE_cases x o.at_ o.id o.v.length with hz | hz
      · have hins := fun N' M' (h' : TM t mb M' x) => insert_ok N' h' hW o.at_ o.id o.v.length (getL cV o.v) o.v ⟨rfl, fun i hi => getL_get hi⟩ hz
        (conv => whnf) <;> repeat' (first | (rw [hg]; conv => whnf) | (refine CalledS.post _ (hins _ _ (hT _ _)) ?_; rintro _ N3 M3 ⟨rfl, y, T', hy⟩ l3; conv => whnf) | ((first | refine gA ?_ | refine wN ?_ | refine nA ?_ | refine fA ?_ | refine fB ?_ | refine wC ?_ | refine wD ?_ | refine fdA ?_ | refine fdB ?_ | refine vC ?_ | refine vD ?_ | refine feA ?_ | refine feB ?_ | refine uC ?_ | refine uD ?_); conv => whnf) | ((first | refine Pick.dec (fun h => ?_) (fun h => ?_) | refine Pick.beq (fun h => ?_) (fun h => ?_) | refine CondF.dec (fun h => ?_) (fun h => ?_) | refine CondF.beq (fun h => ?_) (fun h => ?_) | refine CondF.nb (fun h => ?_) (fun h => ?_) | refine CondF.nd (fun h => ?_) (fun h => ?_) | refine Pick.nd (fun h => ?_) (fun h => ?_) | refine Pick.mk (fun h => ?_) (fun h => ?_) | refine CondF.mk (fun h => ?_) (fun h => ?_)) <;> conv => whnf))
        rw [hI]
        apply hw.weak (Weak.mk [true, false, true, true, false, false, false, false, true, true, false, false, false, false, false, false, false, false, false, false, false, false, false, false, false, false, false, false, false, false, false, false, false, false, false, false, false, false, false, false, false, true, true, true] (Nat.le_refl _) (Less.refl _))
        exact ih (k + 1) _ _ y T' (by omega) (by omega) hy.tm hy.whole (hy.mov.sc.trans hx)
      · have hins := fun N' M' (h' : TM t mb M' x) => insert_bad N' h' o.at_ o.id o.v.length (getL cV o.v) hz hov
        (conv => whnf) <;> repeat' (first | (rw [hg]; conv => whnf) | (refine CalledS.post _ (hins _ _ (hT _ _)) ?_; rintro _ N3 M3 ⟨rfl, rfl⟩ l3; conv => whnf) | ((first | refine gA ?_ | refine wN ?_ | refine nA ?_ | refine fA ?_ | refine fB ?_ | refine wC ?_ | refine wD ?_ | refine fdA ?_ | refine fdB ?_ | refine vC ?_ | refine vD ?_ | refine feA ?_ | refine feB ?_ | refine uC ?_ | refine uD ?_); conv => whnf) | ((first | refine Pick.dec (fun h => ?_) (fun h => ?_) | refine Pick.beq (fun h => ?_) (fun h => ?_) | refine CondF.dec (fun h => ?_) (fun h => ?_) | refine CondF.beq (fun h => ?_) (fun h => ?_) | refine CondF.nb (fun h => ?_) (fun h => ?_) | refine CondF.nd (fun h => ?_) (fun h => ?_) | refine Pick.nd (fun h => ?_) (fun h => ?_) | refine Pick.mk (fun h => ?_) (fun h => ?_) | refine CondF.mk (fun h => ?_) (fun h => ?_)) <;> conv => whnf))
        rw [hI]
        apply hw.weak (Weak.mk [true, false, true, true, false, false, false, false, true, true, false, false, false, false, false, false, false, false, false, false, false, false, false, false, false, false, false, false, false, false, false, false, false, false, false, false, false, false, false, false, false, true, true, true] (Nat.le_refl _) (Less.refl _))
        exact ih (k + 1) _ _ x T (by omega) (by omega) (hT _ _) hW hx
  apply hw.weak (Weak.mk [true, false, true, true, false, false, false, false, true, true, false, false, false, false, false, false, false, false, false, false, false, false, false, false, false, false, false, false, false, false, false, false, false, false, false, false, false, false, false, false, false, true, true, true] (Nat.le_refl _) (Less.refl _))
  exact key l.length 0 _ _ (tst0 sc) .nil (by omega) (by omega) t1 (whole0 sc) rfl
end Go.Proofs.Ytafiechoplbieaa

