/- aggtree: mend. -/
import Derived.Test.YtafiechoplbieaaAmTc
import Derived.Test.YtafiechoplbieaaAmJg
set_option linter.unusedVariables false
set_option linter.unusedSimpArgs false
set_option maxRecDepth 100000
namespace Go.Proofs.Ytafiechoplbieaa
open Go.AM
section
variable {t mb : Nat} {M : Nat → Blk} {x : Tst}
theorem many_c (N : Nat) (h : TM t mb M x) (k : Option Nat) (hk : ∀ q, k = some q → x.dom q) : ∃ r, CallC Try.prog 54 [pO k] N M (.int .i64 (x.sizeO k)) [] r N := by
  cases k with
  | none => exact ⟨_, many_nil N M⟩
  | some q => exact ⟨_, many_at N (h.node q (hk q rfl))⟩
theorem heavy_s (N : Nat) (h : TM t mb M x) (a b : Option Nat) (n : Int) (ha : ∀ q, a = some q → x.dom q) (hb : ∀ q, b = some q → x.dom q) :
    RetS Try.prog 73 [pO a, pO b, .int .i64 n] N M fun v _ M' => v = .bool (decide (IntKind.i64.wrap (x.sizeO a + 1) > IntKind.i64.wrap (n * IntKind.i64.wrap (x.sizeO b + 1)))) ∧ M' = M := by
  obtain ⟨ra, ca⟩ := many_c N h a ha
  obtain ⟨rb, cb⟩ := many_c N h b hb
  refine RetS.of_body tok mixed Try.func73 (by kernel_rfl) rfl (k := 16) (rs := [.tmp 6]) (by kernel_rfl) (by kernel_rfl) ?_; intro hN
  (conv => whnf) <;> repeat' (first | ((first | refine gA ?_ | refine wN ?_ | refine nA ?_ | refine fA ?_ | refine fB ?_ | refine wC ?_ | refine wD ?_ | refine CalledS.det (CalledF.mk _ _ _ _ (ca) ?_) | refine CalledF.mk _ _ _ _ (ca) ?_ | refine CalledS.det (CalledF.mk _ _ _ _ (cb) ?_) | refine CalledF.mk _ _ _ _ (cb) ?_ | refine fdA ?_ | refine fdB ?_ | refine vC ?_ | refine vD ?_ | refine feA ?_ | refine feB ?_ | refine uC ?_ | refine uD ?_); conv => whnf) | ((first | refine Pick.dec (fun h => ?_) (fun h => ?_) | refine Pick.beq (fun h => ?_) (fun h => ?_) | refine CondF.dec (fun h => ?_) (fun h => ?_) | refine CondF.beq (fun h => ?_) (fun h => ?_) | refine CondF.nb (fun h => ?_) (fun h => ?_) | refine CondF.nd (fun h => ?_) (fun h => ?_) | refine Pick.nd (fun h => ?_) (fun h => ?_) | refine Pick.mk (fun h => ?_) (fun h => ?_) | refine CondF.mk (fun h => ?_) (fun h => ?_)) <;> conv => whnf))
  exact .mk N _ ⟨rfl, rfl⟩ (Less.refl _) (Nat.le_refl _) (Nat.le_refl _)
/-- a turn, where it may be -/
theorem turn_u (N : Nat) (h : TM t mb M x) {n k : Nat} (s : Bool) {i : Int} (hi : i = sI s) (ho : TurnOk x n s k) : RetS Try.prog 74 [.ptr t 0, .ptr n 0, .int .i64 i] N M fun v _ M' => v = .ptr k 0 ∧ TM t mb M' (x.turn n s k) ∧ Fr t mb x M M' := by
  subst hi
  exact turn_s N h s ho.hn ho.hk ho.hkid ho.hkn ho.hu ho.hj ho.hks ho.hns
theorem says_lt {x : Tst} {T : Tr} (h : Says x T) (hl : T.ps.length < 1152921504606846976) : 0 ≤ x.sizeO T.root ∧ x.sizeO T.root < 1152921504606846976 := by rw [h.sizeO]; omega
set_option maxHeartbeats 4000000 in
/-- A PATH MENDED. -/
theorem mend_s (N : Nat) (c0 : Ctx) (T0 : Tr) (h : TM t mb M x) (hO : On x T0 c0) (hS : Says x T0) (hSC : SaysC x c0) (hlen : T0.ps.length + (cps c0).length < 1152921504606846976) :
    RetS Try.prog 59 [.ptr t 0, pO (upOf c0)] N M fun v _ M' => v = .tup [] ∧ ∃ y T', TM t mb M' y ∧ Keep x y ∧ On y T' [] ∧ Says y T' ∧ T'.ps = (plug c0 T0).ps ∧ Fr t mb x M M' := by
  refine RetS.of_body tok mixed Try.func59 (by kernel_rfl) rfl (k := 62) (rs := []) (by kernel_rfl) (by kernel_rfl) ?_; intro hN
  (conv => whnf) <;> repeat' (first | ((first | refine gA ?_ | refine wN ?_ | refine nA ?_ | refine fA ?_ | refine fB ?_ | refine wC ?_ | refine wD ?_ | refine fdA ?_ | refine fdB ?_ | refine vC ?_ | refine vD ?_ | refine feA ?_ | refine feB ?_ | refine uC ?_ | refine uD ?_); conv => whnf) | ((first | refine Pick.dec (fun h => ?_) (fun h => ?_) | refine Pick.beq (fun h => ?_) (fun h => ?_) | refine CondF.dec (fun h => ?_) (fun h => ?_) | refine CondF.beq (fun h => ?_) (fun h => ?_) | refine CondF.nb (fun h => ?_) (fun h => ?_) | refine CondF.nd (fun h => ?_) (fun h => ?_) | refine Pick.nd (fun h => ?_) (fun h => ?_) | refine Pick.mk (fun h => ?_) (fun h => ?_) | refine CondF.mk (fun h => ?_) (fun h => ?_)) <;> conv => whnf))
  intro I hw hs
  have key : ∀ (c : Ctx) (T : Tr) (y : Tst) (M1 : Nat → Blk) (N1 : Nat), N ≤ N1 → TM t mb M1 y → Keep x y → On y T c → Says y T → SaysC y c → (plug c T).ps = (plug c0 T0).ps → Fr t mb x M M1 →
      I [.ptr t 0, pO (upOf c), .und, .und, .und, .und, .und, .und, .und, .und, .und, .und, .und, .und, .und, .und, .und, .und, .und, .und, .und, .und, .und, .und, .und, .und, .und, .und, .und, .und, .und, .und, .und, .und, .und, .und, .und, .und, .und, .und, .und, .und, .und, .und, .und, .und, .und, .und, .und, .und, .und, .und, .und, .und, .und, .und, .und, .und, .und, .und, .und, .und] N1 M1 := by
    intro c
    induction c with
    | nil =>
      intro T y M1 N1 hN1 hT hk hO hS hSC hps hF
      apply hs
      (conv => whnf) <;> repeat' (first | ((first | refine gA ?_ | refine wN ?_ | refine nA ?_ | refine fA ?_ | refine fB ?_ | refine wC ?_ | refine wD ?_ | refine fdA ?_ | refine fdB ?_ | refine vC ?_ | refine vD ?_ | refine feA ?_ | refine feB ?_ | refine uC ?_ | refine uD ?_); conv => whnf) | ((first | refine Pick.dec (fun h => ?_) (fun h => ?_) | refine Pick.beq (fun h => ?_) (fun h => ?_) | refine CondF.dec (fun h => ?_) (fun h => ?_) | refine CondF.beq (fun h => ?_) (fun h => ?_) | refine CondF.nb (fun h => ?_) (fun h => ?_) | refine CondF.nd (fun h => ?_) (fun h => ?_) | refine Pick.nd (fun h => ?_) (fun h => ?_) | refine Pick.mk (fun h => ?_) (fun h => ?_) | refine CondF.mk (fun h => ?_) (fun h => ?_)) <;> conv => whnf))
      exact .mk N1 _ ⟨rfl, y, T, hT, hk, hO, hS, hps, hF⟩ (Less.refl _) hN1 (Nat.le_refl _)
    | cons f c ih =>
      intro T y M1 N1 hN1 hT hk hO hS hSC hps hF
      have hup := hO.up
      have hln : (f.plug T).ps.length + (cps c).length < 1152921504606846976 := by
        have e1 := plug_len c (f.plug T)
        have e2 : (plug c (f.plug T)).ps = (plug c0 T0).ps := hps
        rw [e2, plug_len c0 T0] at e1
        omega
      have hz := says_up hO hS hSC.1 (by omega)
      have hOz := hup.reck f.p
      have hp : f.p ∈ (f.plug T).ps := root_mem (Fm.plug_root f T)
      have hSCz : SaysC (y.reck f.p) c := saysC_off (keep_reck _ _) hSC.2 fun q hq => reck_data _ fun e => (List.nodup_append.1 hup.nodup).2.2 f.p hp q hq e.symm
      obtain ⟨l, r, hlr⟩ : ∃ l r, f.plug T = .node l f.p r := by
        obtain ⟨s, p, sib⟩ := f
        cases s <;> exact ⟨_, _, rfl⟩
      have hps' : (plug c (.node l f.p r)).ps = (plug c0 T0).ps := by rw [← hlr]; exact hps
      rw [hlr] at hup hln hz hOz
      have hpd : y.dom f.p := hup.mem (by simp [Tr.ps])
      have hk0 : (y.nd f.p).k0 = l.root := hup.tree.2.1
      have hk1 : (y.nd f.p).k1 = r.root := hup.tree.2.2.1
      have hnd := hup.nodup
      simp only [Tr.ps, List.append_assoc, List.cons_append, List.nodup_append, List.nodup_cons, List.mem_cons, List.mem_append, not_or] at hnd
      have ldom : ∀ q, l.root = some q → y.dom q ∧ q ≠ f.p := fun q hq => ⟨hup.mem (by simp [Tr.ps, root_mem hq]), fun e => hnd.2.2 q (root_mem hq) q (.inl e) rfl⟩
      have rdom : ∀ q, r.root = some q → y.dom q ∧ q ≠ f.p := fun q hq => ⟨hup.mem (by simp [Tr.ps, root_mem hq]), fun e => hnd.2.1.1.1 (e ▸ root_mem hq)⟩
      have kz := keep_reck y f.p
      obtain ⟨z, hzz⟩ : ∃ z, z = y.reck f.p := ⟨_, rfl⟩
      rw [← hzz] at hz hOz hSCz kz
      have dl : ∀ q, l.root = some q → z.dom q := fun q hq => kz.into (ldom q hq).1
      have dr : ∀ q, r.root = some q → z.dom q := fun q hq => kz.into (rdom q hq).1
      have zup : (z.nd f.p).up = upOf c := hOz.tree.1
      have zk0 : (z.nd f.p).k0 = l.root := hOz.tree.2.1
      have zk1 : (z.nd f.p).k1 = r.root := hOz.tree.2.2.1
      have hlp := hln
      simp only [Tr.ps, List.length_append, List.length_cons] at hlp
      have sl := says_lt hz.1 (by omega)
      have sr := says_lt hz.2.1 (by omega)
      have hln' : (Tr.node l f.p r).ps.length < 4611686018427387904 := by omega
      have kxz := hk.trans kz
      apply hs
      (conv => whnf) <;> repeat' (first | (refine CalledS.post _ (reckon_s _ hT (n := f.p) hpd (fun q hq => ldom q (hk0.symm.trans hq)) (fun q hq => rdom q (hk1.symm.trans hq))) ?_; rintro _ N2 M2 ⟨rfl, t2, f2⟩ l2; conv => whnf) | ((first | refine gA ?_ | refine wN ?_ | refine nA ?_ | refine fA ?_ | refine fB ?_ | refine wC ?_ | refine wD ?_ | refine fdA ?_ | refine fdB ?_ | refine vC ?_ | refine vD ?_ | refine feA ?_ | refine feB ?_ | refine uC ?_ | refine uD ?_); conv => whnf) | ((first | refine Pick.dec (fun h => ?_) (fun h => ?_) | refine Pick.beq (fun h => ?_) (fun h => ?_) | refine CondF.dec (fun h => ?_) (fun h => ?_) | refine CondF.beq (fun h => ?_) (fun h => ?_) | refine CondF.nb (fun h => ?_) (fun h => ?_) | refine CondF.nd (fun h => ?_) (fun h => ?_) | refine Pick.nd (fun h => ?_) (fun h => ?_) | refine Pick.mk (fun h => ?_) (fun h => ?_) | refine CondF.mk (fun h => ?_) (fun h => ?_)) <;> conv => whnf))
      rw [← hzz] at t2
      have hP := t2.node f.p (kz.into hpd)
      simp only [recC, zup, zk0, zk1] at hP
      intro I2 hw2 hs2
      apply hs2
      by_cases h0 : IntKind.i64.wrap (z.sizeO l.root + 1) > IntKind.i64.wrap (3 * IntKind.i64.wrap (z.sizeO r.root + 1))
      · cases l with
        | nil =>
          exfalso
          have e0 : z.sizeO Tr.nil.root = 0 := rfl
          rw [e0, wi64_id (by omega) (by omega), wi64_id (n := z.sizeO r.root + 1) (by omega) (by omega), wi64_id (by omega) (by omega)] at h0
          omega
        | node a k b =>
          have kT := hOz.tree.2.2.2.1
          have hkd : z.dom k := dl k rfl
          have hK := t2.node k hkd
          simp only [recC, kT.1, kT.2.1, kT.2.2.1] at hK
          have da : ∀ q, a.root = some q → z.dom q := fun q hq => hOz.mem (by simp [Tr.ps, root_mem hq])
          have db : ∀ q, b.root = some q → z.dom q := fun q hq => hOz.mem (by simp [Tr.ps, root_mem hq])
          by_cases hd : IntKind.i64.wrap (z.sizeO b.root + 1) ≥ IntKind.i64.wrap (2 * IntKind.i64.wrap (z.sizeO a.root + 1))
          · cases b with
            | nil =>
              exfalso
              have sa := says_lt hz.1.1 (by simp only [Tr.ps, List.length_append, List.length_cons] at hlp ⊢; omega)
              have e0 : z.sizeO Tr.nil.root = 0 := rfl
              rw [e0, wi64_id (n := z.sizeO a.root + 1) (by omega) (by omega), wi64_id (by omega) (by omega), wi64_id (by omega) (by omega)] at hd
              omega
            | node b1 m b2 =>
              obtain ⟨ok1, nx1⟩ := twice0 hOz hz hSCz hln'
              have ok2 := turn_ok0 nx1.on
              have nx2 := next0 nx1.on nx1.says nx1.saysC (by rw [nx1.ps]; exact hln')
              have hRup := nx2.on.tree.1
              (conv => whnf) <;> repeat' (first | (refine CalledS.post _ (heavy_s _ t2 _ _ 3 dl dr) ?_; rintro _ N3 M3 ⟨rfl, rfl⟩ l3; conv => whnf) | (refine CalledS.post _ (turn_u _ t2 (n := k) (k := m) true (by decide) ok1) ?_; rintro _ N4 M4 ⟨rfl, t4, f4⟩ l4; conv => whnf) | (refine CalledS.post _ (turn_u _ t4 (n := f.p) (k := m) false (by decide) ok2) ?_; rintro _ N5 M5 ⟨rfl, t5, f5⟩ l5; have hR := t5.node m (nx2.on.mem (by simp [Tr.ps])); simp only [recC, hRup] at hR; conv => whnf) | ((first | refine gA ?_ | refine wN ?_ | refine nA ?_ | refine fA ?_ | refine fB ?_ | refine wC ?_ | refine wD ?_ | refine CalledS.det (CalledF.mk _ _ _ _ ((many_c _ t2 _ da).choose_spec) ?_) | refine CalledF.mk _ _ _ _ ((many_c _ t2 _ da).choose_spec) ?_ | refine CalledS.det (CalledF.mk _ _ _ _ ((many_c _ t2 _ db).choose_spec) ?_) | refine CalledF.mk _ _ _ _ ((many_c _ t2 _ db).choose_spec) ?_ | refine fdA ?_ | refine fdB ?_ | refine vC ?_ | refine vD ?_ | refine feA ?_ | refine feB ?_ | refine uC ?_ | refine uD ?_); conv => whnf) | ((first | refine Pick.dec (fun h => ?_) (fun h => ?_) | refine Pick.beq (fun h => ?_) (fun h => ?_) | refine CondF.dec (fun h => ?_) (fun h => ?_) | refine CondF.beq (fun h => ?_) (fun h => ?_) | refine CondF.nb (fun h => ?_) (fun h => ?_) | refine CondF.nd (fun h => ?_) (fun h => ?_) | refine Pick.nd (fun h => ?_) (fun h => ?_) | refine Pick.mk (fun h => ?_) (fun h => ?_) | refine CondF.mk (fun h => ?_) (fun h => ?_)) <;> conv => whnf))
              apply hw.weak (Weak.mk [true, true] (Nat.le_refl _) (Less.refl _))
              exact ih _ _ _ _ (by omega) t5 (kxz.trans (nx1.keep.trans nx2.keep)) nx2.on nx2.says nx2.saysC ((plug_ps c (nx2.ps.trans nx1.ps)).trans hps') (hF.trans hk (f2.trans kz (f4.trans nx1.keep f5)))
          · have ok := turn_ok0 hOz
            have nx := next0 hOz hz hSCz hln'
            have hRup := nx.on.tree.1
            (conv => whnf) <;> repeat' (first | (refine CalledS.post _ (heavy_s _ t2 _ _ 3 dl dr) ?_; rintro _ N3 M3 ⟨rfl, rfl⟩ l3; conv => whnf) | (refine CalledS.post _ (turn_u _ t2 (n := f.p) (k := k) false (by decide) ok) ?_; rintro _ N5 M5 ⟨rfl, t5, f5⟩ l5; have hR := t5.node k (nx.on.mem (by simp [Tr.ps])); simp only [recC, hRup] at hR; conv => whnf) | ((first | refine gA ?_ | refine wN ?_ | refine nA ?_ | refine fA ?_ | refine fB ?_ | refine wC ?_ | refine wD ?_ | refine CalledS.det (CalledF.mk _ _ _ _ ((many_c _ t2 _ da).choose_spec) ?_) | refine CalledF.mk _ _ _ _ ((many_c _ t2 _ da).choose_spec) ?_ | refine CalledS.det (CalledF.mk _ _ _ _ ((many_c _ t2 _ db).choose_spec) ?_) | refine CalledF.mk _ _ _ _ ((many_c _ t2 _ db).choose_spec) ?_ | refine fdA ?_ | refine fdB ?_ | refine vC ?_ | refine vD ?_ | refine feA ?_ | refine feB ?_ | refine uC ?_ | refine uD ?_); conv => whnf) | ((first | refine Pick.dec (fun h => ?_) (fun h => ?_) | refine Pick.beq (fun h => ?_) (fun h => ?_) | refine CondF.dec (fun h => ?_) (fun h => ?_) | refine CondF.beq (fun h => ?_) (fun h => ?_) | refine CondF.nb (fun h => ?_) (fun h => ?_) | refine CondF.nd (fun h => ?_) (fun h => ?_) | refine Pick.nd (fun h => ?_) (fun h => ?_) | refine Pick.mk (fun h => ?_) (fun h => ?_) | refine CondF.mk (fun h => ?_) (fun h => ?_)) <;> conv => whnf))
            apply hw.weak (Weak.mk [true, true] (Nat.le_refl _) (Less.refl _))
            exact ih _ _ _ _ (by omega) t5 (kxz.trans nx.keep) nx.on nx.says nx.saysC ((plug_ps c nx.ps).trans hps') (hF.trans hk (f2.trans kz f5))
      · by_cases h1 : IntKind.i64.wrap (z.sizeO r.root + 1) > IntKind.i64.wrap (3 * IntKind.i64.wrap (z.sizeO l.root + 1))
        · cases r with
          | nil =>
            exfalso
            have e0 : z.sizeO Tr.nil.root = 0 := rfl
            rw [e0, wi64_id (by omega) (by omega), wi64_id (n := z.sizeO l.root + 1) (by omega) (by omega), wi64_id (by omega) (by omega)] at h1
            omega
          | node a k b =>
            have kT := hOz.tree.2.2.2.2
            have hkd : z.dom k := dr k rfl
            have hK := t2.node k hkd
            simp only [recC, kT.1, kT.2.1, kT.2.2.1] at hK
            have da : ∀ q, a.root = some q → z.dom q := fun q hq => hOz.mem (by simp [Tr.ps, root_mem hq])
            have db : ∀ q, b.root = some q → z.dom q := fun q hq => hOz.mem (by simp [Tr.ps, root_mem hq])
            by_cases hd : IntKind.i64.wrap (z.sizeO a.root + 1) ≥ IntKind.i64.wrap (2 * IntKind.i64.wrap (z.sizeO b.root + 1))
            · cases a with
              | nil =>
                exfalso
                have sa := says_lt hz.2.1.2.1 (by simp only [Tr.ps, List.length_append, List.length_cons] at hlp ⊢; omega)
                have e0 : z.sizeO Tr.nil.root = 0 := rfl
                rw [e0, wi64_id (n := z.sizeO b.root + 1) (by omega) (by omega), wi64_id (by omega) (by omega), wi64_id (by omega) (by omega)] at hd
                omega
              | node a1 m a2 =>
                obtain ⟨ok1, nx1⟩ := twice1 hOz hz hSCz hln'
                have ok2 := turn_ok1 nx1.on
                have nx2 := next1 nx1.on nx1.says nx1.saysC (by rw [nx1.ps]; exact hln')
                have hRup := nx2.on.tree.1
                (conv => whnf) <;> repeat' (first | (apply hs2; conv => whnf) | (refine CalledS.post _ (heavy_s _ t2 _ _ 3 dl dr) ?_; rintro _ N3 M3 ⟨rfl, rfl⟩ l3; conv => whnf) | (refine CalledS.post _ (heavy_s _ t2 _ _ 3 dr dl) ?_; rintro _ N3' M3' ⟨rfl, rfl⟩ l3'; conv => whnf) | (refine CalledS.post _ (turn_u _ t2 (n := k) (k := m) false (by decide) ok1) ?_; rintro _ N4 M4 ⟨rfl, t4, f4⟩ l4; conv => whnf) | (refine CalledS.post _ (turn_u _ t4 (n := f.p) (k := m) true (by decide) ok2) ?_; rintro _ N5 M5 ⟨rfl, t5, f5⟩ l5; have hR := t5.node m (nx2.on.mem (by simp [Tr.ps])); simp only [recC, hRup] at hR; conv => whnf) | ((first | refine gA ?_ | refine wN ?_ | refine nA ?_ | refine fA ?_ | refine fB ?_ | refine wC ?_ | refine wD ?_ | refine CalledS.det (CalledF.mk _ _ _ _ ((many_c _ t2 _ da).choose_spec) ?_) | refine CalledF.mk _ _ _ _ ((many_c _ t2 _ da).choose_spec) ?_ | refine CalledS.det (CalledF.mk _ _ _ _ ((many_c _ t2 _ db).choose_spec) ?_) | refine CalledF.mk _ _ _ _ ((many_c _ t2 _ db).choose_spec) ?_ | refine fdA ?_ | refine fdB ?_ | refine vC ?_ | refine vD ?_ | refine feA ?_ | refine feB ?_ | refine uC ?_ | refine uD ?_); conv => whnf) | ((first | refine Pick.dec (fun h => ?_) (fun h => ?_) | refine Pick.beq (fun h => ?_) (fun h => ?_) | refine CondF.dec (fun h => ?_) (fun h => ?_) | refine CondF.beq (fun h => ?_) (fun h => ?_) | refine CondF.nb (fun h => ?_) (fun h => ?_) | refine CondF.nd (fun h => ?_) (fun h => ?_) | refine Pick.nd (fun h => ?_) (fun h => ?_) | refine Pick.mk (fun h => ?_) (fun h => ?_) | refine CondF.mk (fun h => ?_) (fun h => ?_)) <;> conv => whnf))
                apply hw.weak (Weak.mk [true, true] (Nat.le_refl _) (Less.refl _))
                exact ih _ _ _ _ (by omega) t5 (kxz.trans (nx1.keep.trans nx2.keep)) nx2.on nx2.says nx2.saysC ((plug_ps c (nx2.ps.trans nx1.ps)).trans hps') (hF.trans hk (f2.trans kz (f4.trans nx1.keep f5)))
            · have ok := turn_ok1 hOz
              have nx := next1 hOz hz hSCz hln'
              have hRup := nx.on.tree.1
              (conv => whnf) <;> repeat' (first | (apply hs2; conv => whnf) | (refine CalledS.post _ (heavy_s _ t2 _ _ 3 dl dr) ?_; rintro _ N3 M3 ⟨rfl, rfl⟩ l3; conv => whnf) | (refine CalledS.post _ (heavy_s _ t2 _ _ 3 dr dl) ?_; rintro _ N3' M3' ⟨rfl, rfl⟩ l3'; conv => whnf) | (refine CalledS.post _ (turn_u _ t2 (n := f.p) (k := k) true (by decide) ok) ?_; rintro _ N5 M5 ⟨rfl, t5, f5⟩ l5; have hR := t5.node k (nx.on.mem (by simp [Tr.ps])); simp only [recC, hRup] at hR; conv => whnf) | ((first | refine gA ?_ | refine wN ?_ | refine nA ?_ | refine fA ?_ | refine fB ?_ | refine wC ?_ | refine wD ?_ | refine CalledS.det (CalledF.mk _ _ _ _ ((many_c _ t2 _ da).choose_spec) ?_) | refine CalledF.mk _ _ _ _ ((many_c _ t2 _ da).choose_spec) ?_ | refine CalledS.det (CalledF.mk _ _ _ _ ((many_c _ t2 _ db).choose_spec) ?_) | refine CalledF.mk _ _ _ _ ((many_c _ t2 _ db).choose_spec) ?_ | refine fdA ?_ | refine fdB ?_ | refine vC ?_ | refine vD ?_ | refine feA ?_ | refine feB ?_ | refine uC ?_ | refine uD ?_); conv => whnf) | ((first | refine Pick.dec (fun h => ?_) (fun h => ?_) | refine Pick.beq (fun h => ?_) (fun h => ?_) | refine CondF.dec (fun h => ?_) (fun h => ?_) | refine CondF.beq (fun h => ?_) (fun h => ?_) | refine CondF.nb (fun h => ?_) (fun h => ?_) | refine CondF.nd (fun h => ?_) (fun h => ?_) | refine Pick.nd (fun h => ?_) (fun h => ?_) | refine Pick.mk (fun h => ?_) (fun h => ?_) | refine CondF.mk (fun h => ?_) (fun h => ?_)) <;> conv => whnf))
              apply hw.weak (Weak.mk [true, true] (Nat.le_refl _) (Less.refl _))
              exact ih _ _ _ _ (by omega) t5 (kxz.trans nx.keep) nx.on nx.says nx.saysC ((plug_ps c nx.ps).trans hps') (hF.trans hk (f2.trans kz f5))
        · (conv => whnf) <;> repeat' (first | (apply hs2; conv => whnf) | (refine CalledS.post _ (heavy_s _ t2 _ _ 3 dl dr) ?_; rintro _ N3 M3 ⟨rfl, rfl⟩ l3; conv => whnf) | (refine CalledS.post _ (heavy_s _ t2 _ _ 3 dr dl) ?_; rintro _ N3' M3' ⟨rfl, rfl⟩ l3'; conv => whnf) | ((first | refine gA ?_ | refine wN ?_ | refine nA ?_ | refine fA ?_ | refine fB ?_ | refine wC ?_ | refine wD ?_ | refine fdA ?_ | refine fdB ?_ | refine vC ?_ | refine vD ?_ | refine feA ?_ | refine feB ?_ | refine uC ?_ | refine uD ?_); conv => whnf) | ((first | refine Pick.dec (fun h => ?_) (fun h => ?_) | refine Pick.beq (fun h => ?_) (fun h => ?_) | refine CondF.dec (fun h => ?_) (fun h => ?_) | refine CondF.beq (fun h => ?_) (fun h => ?_) | refine CondF.nb (fun h => ?_) (fun h => ?_) | refine CondF.nd (fun h => ?_) (fun h => ?_) | refine Pick.nd (fun h => ?_) (fun h => ?_) | refine Pick.mk (fun h => ?_) (fun h => ?_) | refine CondF.mk (fun h => ?_) (fun h => ?_)) <;> conv => whnf))
          apply hw.weak (Weak.mk [true, true] (Nat.le_refl _) (Less.refl _))
          exact ih (.node l f.p r) z _ _ (by omega) t2 kxz hOz hz hSCz hps' (hF.trans hk f2)
  apply hw.weak (Weak.mk [true, true] (Nat.le_refl _) (Less.refl _))
  exact key c0 T0 x M N (Nat.le_refl _) h (.refl x) hO hS hSC rfl (.refl _ _ _ _)
end
end Go.Proofs.Ytafiechoplbieaa

set_option linter.unusedVariables false
set_option linter.unusedSimpArgs false
set_option maxRecDepth 100000
namespace Go.Proofs.Ytafiechoplbieaa
open Go.AM
section
variable {t mb : Nat} {M : Nat → Blk} {x : Tst}
set_option maxHeartbeats 4000000 in
/-- A node put to its place. -/
theorem put_s (N : Nat) (T : Tr) (h : TM t mb M x) (hO : On x T []) (hS : Says x T) {p : Nat} (hp : x.dom p) (hpT : p ∉ T.ps) (k : Nat) (hk : k ≤ T.ps.length) (hlen : T.ps.length < 576460752303423488) :
    RetS Try.prog 35 [.ptr t 0, .int .i64 (k : Int), .ptr p 0] N M fun v _ M' => v = .tup [] ∧ ∃ y T', TM t mb M' y ∧ Keep x y ∧ On y T' [] ∧ Says y T' ∧ T'.ps = ins k p T.ps ∧ Fr t mb x M M' := by
  have hP := h.node p hp
  -- the node, alone
  have h0 := h.setNode hp { x.nd p with size := 1, up := none, k0 := none, k1 := none } rfl rfl
  obtain ⟨x0, hx0⟩ : ∃ x0, x0 = x.setN p { x.nd p with size := 1, up := none, k0 := none, k1 := none } := ⟨_, rfl⟩
  have hp0 : x0.nd p = { x.nd p with size := 1, up := none, k0 := none, k1 := none } := by rw [hx0]; exact Tst.setN_at _ _ _
  have ho0 : ∀ q, q ≠ p → x0.nd q = x.nd q := fun q hq => by rw [hx0]; exact Tst.setN_off _ _ hq
  have kx0 : Keep x x0 := by rw [hx0]; exact .setN rfl rfl
  rw [← hx0] at h0
  have hTp : ∀ q ∈ T.ps, q ≠ p := fun q hq e => hpT (e ▸ hq)
  have r0 : x0.root = x.root := by rw [hx0]; rfl
  have O0 : On x0 T [] := ⟨hO.tree.same fun q hq => ho0 q (hTp q hq), trivial, r0.trans hO.root, hO.nodup, fun q hq => kx0.into (hO.dom q hq)⟩
  have S0 : Says x0 T := hS.congr kx0.vals kx0.sc fun q hq => by rw [ho0 q (hTp q hq)]; exact ⟨rfl, rfl, rfl⟩
  have SL0 : Says (x0.reck p) (.node .nil p .nil) := Says.reck (by rw [hp0]; rfl) (by rw [hp0]; rfl) trivial trivial (by simp [Tr.ps]) (by simp [Tr.ps]) (by simp [Tr.ps])
  have kr := keep_reck x0 p
  have Or : On (x0.reck p) T [] := O0.reck p
  have Sr : Says (x0.reck p) T := S0.congr kr.vals kr.sc fun q hq => reck_data _ (hTp q hq)
  have k0r : ((x0.reck p).nd p).k0 = none := by rw [(reck_links x0 p p).2.1, hp0]
  have k1r : ((x0.reck p).nd p).k1 = none := by rw [(reck_links x0 p p).2.2, hp0]
  have upr : ((x0.reck p).nd p).up = none := by rw [(reck_links x0 p p).1, hp0]
  obtain ⟨y, hy⟩ : ∃ y, y = x0.reck p := ⟨_, rfl⟩
  have kxy : Keep x y := by rw [hy]; exact kx0.trans kr
  have hpy : y.dom p := kxy.into hp
  have e00 : ∀ q, (x0.nd p).k0 = some q → x0.dom q ∧ q ≠ p := fun q hq => by rw [hp0] at hq; cases hq
  have e01 : ∀ q, (x0.nd p).k1 = some q → x0.dom q ∧ q ≠ p := fun q hq => by rw [hp0] at hq; cases hq
  have F0 : Fr t mb x M (setH M p (.cells (recC x (x.sb p) { x.nd p with size := 1, up := none, k0 := none, k1 := none }))) := Fr.node hp _
  rw [← hy] at SL0 Or Sr k0r k1r upr
  cases T with
  | nil =>
    refine RetS.of_body tok mixed Try.func35 (by kernel_rfl) rfl (k := 75) (rs := []) (by kernel_rfl) (by kernel_rfl) ?_; intro hN
    (conv => whnf) <;> repeat' (first | (rw [setH_twice, setH_twice]; conv => whnf) | (refine CalledS.post _ (reckon_s _ h0 (n := p) (kx0.into hp) e00 e01) ?_; rintro _ N2 M2 ⟨rfl, t2, f2⟩ l2; rw [← hy] at t2; have hroot : y.root = none := Or.root; obtain ⟨lk, ht⟩ := t2.tree; rw [hroot, pO_none] at ht; conv => whnf) | ((first | refine gA ?_ | refine wN ?_ | refine nA ?_ | refine fA ?_ | refine fB ?_ | refine wC ?_ | refine wD ?_ | refine fdA ?_ | refine fdB ?_ | refine vC ?_ | refine vD ?_ | refine feA ?_ | refine feB ?_ | refine uC ?_ | refine uD ?_); conv => whnf) | ((first | refine Pick.dec (fun h => ?_) (fun h => ?_) | refine Pick.beq (fun h => ?_) (fun h => ?_) | refine CondF.dec (fun h => ?_) (fun h => ?_) | refine CondF.beq (fun h => ?_) (fun h => ?_) | refine CondF.nb (fun h => ?_) (fun h => ?_) | refine CondF.nd (fun h => ?_) (fun h => ?_) | refine Pick.nd (fun h => ?_) (fun h => ?_) | refine Pick.mk (fun h => ?_) (fun h => ?_) | refine CondF.mk (fun h => ?_) (fun h => ?_)) <;> conv => whnf))
    have t3 := t2.setTree (some p) lk
    refine .mk N2 _ ⟨rfl, { y with root := some p }, .node .nil p .nil, t3, ?_, ?_, ?_, by simp [Tr.ps, ins_nil], ?_⟩ (Less.refl _) l2 (Nat.le_refl _)
    · exact ⟨kxy.sc, kxy.by_, kxy.sb, kxy.vals, kxy.dom, kxy.id, kxy.vk⟩
    · exact ⟨⟨upr, k0r, k1r, trivial, trivial⟩, trivial, rfl, by simp [Tr.ps, cps], fun q hq => by simp [Tr.ps, cps] at hq; subst hq; exact hpy⟩
    · exact SL0
    · exact F0.trans (kx0) (f2.trans (by rw [← hy] at kr; exact kr) (Fr.tree _))
  | node l0 n0 r0' =>
    refine RetS.of_body tok mixed Try.func35 (by kernel_rfl) rfl (k := 75) (rs := []) (by kernel_rfl) (by kernel_rfl) ?_; intro hN
    (conv => whnf) <;> repeat' (first | (rw [setH_twice, setH_twice]; conv => whnf) | (refine CalledS.post _ (reckon_s _ h0 (n := p) (kx0.into hp) e00 e01) ?_; rintro _ N2 M2 ⟨rfl, t2, f2⟩ l2; rw [← hy] at t2; have hroot : y.root = some n0 := Or.root; obtain ⟨lk, ht⟩ := t2.tree; rw [hroot, pO_some] at ht; conv => whnf) | ((first | refine gA ?_ | refine wN ?_ | refine nA ?_ | refine fA ?_ | refine fB ?_ | refine wC ?_ | refine wD ?_ | refine fdA ?_ | refine fdB ?_ | refine vC ?_ | refine vD ?_ | refine feA ?_ | refine feB ?_ | refine uC ?_ | refine uD ?_); conv => whnf) | ((first | refine Pick.dec (fun h => ?_) (fun h => ?_) | refine Pick.beq (fun h => ?_) (fun h => ?_) | refine CondF.dec (fun h => ?_) (fun h => ?_) | refine CondF.beq (fun h => ?_) (fun h => ?_) | refine CondF.nb (fun h => ?_) (fun h => ?_) | refine CondF.nd (fun h => ?_) (fun h => ?_) | refine Pick.nd (fun h => ?_) (fun h => ?_) | refine Pick.mk (fun h => ?_) (fun h => ?_) | refine CondF.mk (fun h => ?_) (fun h => ?_)) <;> conv => whnf))
    have hF2 : Fr t mb x M M2 := F0.trans kx0 f2
    have kxx : Keep x y := kxy
    obtain ⟨hfuel, hfu0⟩ : ∃ fu, (Tr.node l0 n0 r0').ps.length ≤ fu := ⟨_, Nat.le_refl _⟩
    intro I hw hs
    have key : ∀ (fu : Nat) (l r : Tr) (n : Nat) (c : Ctx) (M1 : Nat → Blk) (N1 : Nat) (a : Nat), (Tr.node l n r).ps.length ≤ fu → N ≤ N1 → TM t mb M1 y → Fr t mb x M M1 → On y (.node l n r) c → (Tr.node l n r).ps.length + (cps c).length = (Tr.node l0 n0 r0').ps.length → Says y (.node l n r) → SaysC y c → a ≤ (Tr.node l n r).ps.length →
        (∀ q ∈ (Tr.node l n r).ps ++ cps c, q ≠ p) → (∀ Tn : Tr, Tn.ps = ins a p (Tr.node l n r).ps → (plug c Tn).ps = ins k p (Tr.node l0 n0 r0').ps) →
        I [.ptr t 0, .int .i64 (a : Int), .ptr p 0, .und, .und, .und, .ptr n 0, .und, .und, .und, .und, .und, .und, .und, .und, .und, .und, .und, .und, .und, .und, .und, .und, .und, .und, .und, .und, .und, .und, .und, .und, .und, .und, .und, .und, .und, .und, .und, .und, .und, .und, .und, .und, .und, .und, .und, .und, .und, .und, .und, .und, .und, .und, .und, .und, .und, .und, .und, .und, .und, .und, .und, .und, .und, .und, .und, .und, .und, .und, .und, .und, .und, .und, .und, .und] N1 M1 := by
      intro fu
      induction fu with
      | zero => intro l r n c M1 N1 a hfu; simp [Tr.ps] at hfu
      | succ fu ih =>
        intro l r n c M1 N1 a hfu hN1 hT hF hO hlen' hS hSC ha hpT' hins
        have hn : y.dom n := hO.mem (by simp [Tr.ps])
        have hpn : p ≠ n := fun e => hpT' n (by simp [Tr.ps]) e.symm
        have hpTT : p ∉ (Tr.node l n r).ps ++ cps c := fun e => hpT' p e rfl
        have dl : ∀ q, l.root = some q → y.dom q := fun q hq => hO.mem (by simp [Tr.ps, root_mem hq])
        have hz := hS.1.sizeO
        have hP := hT.node n hn
        have yk0 : (y.nd n).k0 = l.root := hO.tree.2.1
        have yk1 : (y.nd n).k1 = r.root := hO.tree.2.2.1
        simp only [recC, yk0, yk1] at hP
        obtain ⟨lk, ht⟩ := hT.tree
        have htn := hT.tn n hn
        have hT' : TM t mb (setH M1 t (.cells (treeC (eL 1 cI y.sc) (pO y.root) (.map mb) (IntKind.i64.wrap (lk + 1))))) y := hT.setTree y.root _
        apply hs
        by_cases hgt : (a : Int) > y.sizeO l.root
        · have hgt' : l.ps.length < a := by rw [hz] at hgt; omega
          have ea : IntKind.i64.wrap (IntKind.i64.wrap ((a : Int) - y.sizeO l.root) - 1) = ((a - l.ps.length - 1 : Nat) : Int) := by
            simp only [Tr.ps, List.length_append, List.length_cons] at hlen ha hlen'
            rw [hz] at hgt ⊢
            rw [wi64_id (n := (a : Int) - (l.ps.length : Int)) (by omega) (by omega), wi64_id (by omega) (by omega)]; omega
          cases r with
          | nil =>
            have lf := hO.leaf true l (.inr ⟨rfl, rfl, rfl⟩) hpTT hpy k0r k1r
            have kh := keep_hang y n true (some p) (by simp; exact hpn)
            have sl' : Says (y.hang n true (some p)) (.node .nil p .nil) := SL0.congr kh.vals kh.sc fun q _ => hang_data y n _ _ (by simp; exact hpn) q
            have sc' : SaysC (y.hang n true (some p)) (⟨true, n, l⟩ :: c) := SaysC.congr (x := y) kh.vals kh.sc ⟨hS.1, hSC⟩ fun q _ => hang_data y n _ _ (by simp; exact hpn) q
            (conv => whnf) <;> repeat' (first | (refine CalledS.post _ (hang_s _ hT' (p := n) hn true (by decide) (some p) (fun q hq => by injection hq with hq; subst hq; exact ⟨hpy, hpn⟩)) ?_; rintro _ N3 M3 ⟨rfl, t3, f3⟩ l3; conv => whnf) | (refine CalledS.post _ (mend_s _ (⟨true, n, l⟩ :: c) (.node .nil p .nil) t3 lf sl' sc' (by simp only [Tr.ps, cps, List.length_append, List.length_cons, List.length_nil] at hlen hlen' ⊢; omega)) ?_; rintro _ N4 M4 ⟨rfl, z, T', tz, kz, oz, sz, pz, fz⟩ l4; conv => whnf) | ((first | refine gA ?_ | refine wN ?_ | refine nA ?_ | refine fA ?_ | refine fB ?_ | refine wC ?_ | refine wD ?_ | refine CalledS.det (CalledF.mk _ _ _ _ ((many_c _ hT' _ dl).choose_spec) ?_) | refine CalledF.mk _ _ _ _ ((many_c _ hT' _ dl).choose_spec) ?_ | refine fdA ?_ | refine fdB ?_ | refine vC ?_ | refine vD ?_ | refine feA ?_ | refine feB ?_ | refine uC ?_ | refine uD ?_); conv => whnf) | ((first | refine Pick.dec (fun h => ?_) (fun h => ?_) | refine Pick.beq (fun h => ?_) (fun h => ?_) | refine CondF.dec (fun h => ?_) (fun h => ?_) | refine CondF.beq (fun h => ?_) (fun h => ?_) | refine CondF.nb (fun h => ?_) (fun h => ?_) | refine CondF.nd (fun h => ?_) (fun h => ?_) | refine Pick.nd (fun h => ?_) (fun h => ?_) | refine Pick.mk (fun h => ?_) (fun h => ?_) | refine CondF.mk (fun h => ?_) (fun h => ?_)) <;> conv => whnf))
            refine .mk N4 _ ⟨rfl, z, T', tz, kxy.trans (kh.trans kz), oz, sz, ?_, hF.trans kxy ((Fr.tree _).trans (.refl y) (f3.trans kh fz))⟩ (Less.refl _) (by omega) (Nat.le_refl _)
            rw [pz]
            refine hins (.node l n (.node .nil p .nil)) ?_
            simp only [Tr.ps]
            rw [ins_right hgt']
            simp [Tr.ps, ins_nil]
          | node a' m b' =>
            (conv => whnf) <;> repeat' (first | ((first | refine gA ?_ | refine wN ?_ | refine nA ?_ | refine fA ?_ | refine fB ?_ | refine wC ?_ | refine wD ?_ | refine CalledS.det (CalledF.mk _ _ _ _ ((many_c _ hT' _ dl).choose_spec) ?_) | refine CalledF.mk _ _ _ _ ((many_c _ hT' _ dl).choose_spec) ?_ | refine fdA ?_ | refine fdB ?_ | refine vC ?_ | refine vD ?_ | refine feA ?_ | refine feB ?_ | refine uC ?_ | refine uD ?_); conv => whnf) | ((first | refine Pick.dec (fun h => ?_) (fun h => ?_) | refine Pick.beq (fun h => ?_) (fun h => ?_) | refine CondF.dec (fun h => ?_) (fun h => ?_) | refine CondF.beq (fun h => ?_) (fun h => ?_) | refine CondF.nb (fun h => ?_) (fun h => ?_) | refine CondF.nd (fun h => ?_) (fun h => ?_) | refine Pick.nd (fun h => ?_) (fun h => ?_) | refine Pick.mk (fun h => ?_) (fun h => ?_) | refine CondF.mk (fun h => ?_) (fun h => ?_)) <;> conv => whnf))
            rw [ea]
            apply hw.weak (Weak.mk [true, true, true, false, false, false, true] (Nat.le_refl _) (Less.refl _))
            refine ih a' b' m (⟨true, n, l⟩ :: c) _ _ (a - l.ps.length - 1) (by simp only [Tr.ps, List.length_append, List.length_cons] at hfu ⊢; omega) (by omega) hT' (hF.trans kxy (Fr.tree _)) hO.down1 (by simp only [cps, Tr.ps, List.length_append, List.length_cons] at hlen' ⊢; omega) hS.2.1 ⟨hS.1, hSC⟩ (by simp only [Tr.ps, List.length_append, List.length_cons] at ha hgt' ⊢; omega) ?_ ?_
            · intro q hq
              exact hpT' q ((plug_perm ⟨true, n, l⟩ _ c).mem_iff.2 hq)
            · intro Tn hTn
              refine hins (.node l n Tn) ?_
              simp only [Tr.ps]
              rw [ins_right hgt', hTn]
              rfl
        · have hgt' : a ≤ l.ps.length := by rw [hz] at hgt; omega
          cases l with
          | nil =>
            have lf := hO.leaf false r (.inl ⟨rfl, rfl, rfl⟩) hpTT hpy k0r k1r
            have kh := keep_hang y n false (some p) (by simp; exact hpn)
            have sl' : Says (y.hang n false (some p)) (.node .nil p .nil) := SL0.congr kh.vals kh.sc fun q _ => hang_data y n _ _ (by simp; exact hpn) q
            have sc' : SaysC (y.hang n false (some p)) (⟨false, n, r⟩ :: c) := SaysC.congr (x := y) kh.vals kh.sc ⟨hS.2.1, hSC⟩ fun q _ => hang_data y n _ _ (by simp; exact hpn) q
            (conv => whnf) <;> repeat' (first | (refine CalledS.post _ (hang_s _ hT' (p := n) hn false (by decide) (some p) (fun q hq => by injection hq with hq; subst hq; exact ⟨hpy, hpn⟩)) ?_; rintro _ N3 M3 ⟨rfl, t3, f3⟩ l3; conv => whnf) | (refine CalledS.post _ (mend_s _ (⟨false, n, r⟩ :: c) (.node .nil p .nil) t3 lf sl' sc' (by simp only [Tr.ps, cps, List.length_append, List.length_cons, List.length_nil] at hlen hlen' ⊢; omega)) ?_; rintro _ N4 M4 ⟨rfl, z, T', tz, kz, oz, sz, pz, fz⟩ l4; conv => whnf) | ((first | refine gA ?_ | refine wN ?_ | refine nA ?_ | refine fA ?_ | refine fB ?_ | refine wC ?_ | refine wD ?_ | refine CalledS.det (CalledF.mk _ _ _ _ ((many_c _ hT' _ dl).choose_spec) ?_) | refine CalledF.mk _ _ _ _ ((many_c _ hT' _ dl).choose_spec) ?_ | refine fdA ?_ | refine fdB ?_ | refine vC ?_ | refine vD ?_ | refine feA ?_ | refine feB ?_ | refine uC ?_ | refine uD ?_); conv => whnf) | ((first | refine Pick.dec (fun h => ?_) (fun h => ?_) | refine Pick.beq (fun h => ?_) (fun h => ?_) | refine CondF.dec (fun h => ?_) (fun h => ?_) | refine CondF.beq (fun h => ?_) (fun h => ?_) | refine CondF.nb (fun h => ?_) (fun h => ?_) | refine CondF.nd (fun h => ?_) (fun h => ?_) | refine Pick.nd (fun h => ?_) (fun h => ?_) | refine Pick.mk (fun h => ?_) (fun h => ?_) | refine CondF.mk (fun h => ?_) (fun h => ?_)) <;> conv => whnf))
            refine .mk N4 _ ⟨rfl, z, T', tz, kxy.trans (kh.trans kz), oz, sz, ?_, hF.trans kxy ((Fr.tree _).trans (.refl y) (f3.trans kh fz))⟩ (Less.refl _) (by omega) (Nat.le_refl _)
            rw [pz]
            refine hins (.node (.node .nil p .nil) n r) ?_
            show ([] : List Nat) ++ p :: [] ++ n :: r.ps = ins a p (Tr.nil.ps ++ n :: r.ps)
            rw [ins_left hgt']
            simp [Tr.ps, ins_nil]
          | node a' m b' =>
            (conv => whnf) <;> repeat' (first | ((first | refine gA ?_ | refine wN ?_ | refine nA ?_ | refine fA ?_ | refine fB ?_ | refine wC ?_ | refine wD ?_ | refine CalledS.det (CalledF.mk _ _ _ _ ((many_c _ hT' _ dl).choose_spec) ?_) | refine CalledF.mk _ _ _ _ ((many_c _ hT' _ dl).choose_spec) ?_ | refine fdA ?_ | refine fdB ?_ | refine vC ?_ | refine vD ?_ | refine feA ?_ | refine feB ?_ | refine uC ?_ | refine uD ?_); conv => whnf) | ((first | refine Pick.dec (fun h => ?_) (fun h => ?_) | refine Pick.beq (fun h => ?_) (fun h => ?_) | refine CondF.dec (fun h => ?_) (fun h => ?_) | refine CondF.beq (fun h => ?_) (fun h => ?_) | refine CondF.nb (fun h => ?_) (fun h => ?_) | refine CondF.nd (fun h => ?_) (fun h => ?_) | refine Pick.nd (fun h => ?_) (fun h => ?_) | refine Pick.mk (fun h => ?_) (fun h => ?_) | refine CondF.mk (fun h => ?_) (fun h => ?_)) <;> conv => whnf))
            apply hw.weak (Weak.mk [true, true, true, false, false, false, true] (Nat.le_refl _) (Less.refl _))
            refine ih a' b' m (⟨false, n, r⟩ :: c) _ _ a (by simp only [Tr.ps, List.length_append, List.length_cons] at hfu ⊢; omega) (by omega) hT' (hF.trans kxy (Fr.tree _)) hO.down0 (by simp only [cps, Tr.ps, List.length_append, List.length_cons] at hlen' ⊢; omega) hS.1 ⟨hS.2.1, hSC⟩ (by simp only [Tr.ps, List.length_append, List.length_cons] at ha hgt' ⊢; omega) ?_ ?_
            · intro q hq
              exact hpT' q ((plug_perm ⟨false, n, r⟩ _ c).mem_iff.2 hq)
            · intro Tn hTn
              refine hins (.node Tn n r) ?_
              show Tn.ps ++ n :: r.ps = ins a p ((Tr.node a' m b').ps ++ n :: r.ps)
              rw [ins_left hgt', hTn]
    apply hw.weak (Weak.mk [true, true, true, false, false, false, true] (Nat.le_refl _) (Less.refl _))
    exact key _ l0 r0' n0 [] M2 N2 k hfu0 l2 t2 hF2 Or (by simp [cps]) Sr trivial hk (fun q hq => by simp only [cps, List.append_nil] at hq; exact hTp q hq) (fun Tn hTn => hTn)
end
end Go.Proofs.Ytafiechoplbieaa

