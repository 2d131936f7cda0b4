/- exciselaw17.size, fits. -/
import Derived.Test.YtlbocjcponegcaaGreatAmHl
import Derived.Test.YtlbocjcponegcaaGreatAmHi
set_option linter.unusedVariables false
set_option linter.unusedSimpArgs false
set_option maxRecDepth 100000
namespace Go.Proofs.YtlbocjcponegcaaGreat
open Go.AM
theorem fsize_ret : ∀ (d : Nat), d ≤ 60 → ∀ (x : Xp), x.Wf → Ret Tryz.prog 29 [eE x, .int .i64 (d : Int)] [] (.int .i64 (sizeE d x)) [] := by
  intro d
  induction d with
  | zero =>
    intro _ x _
    have e0 : sizeE 0 x = 10000 := by unfold sizeE; rfl
    rw [e0]
    refine ret_of_body atCalls tok mixed Tryz.func29 (by kernel_rfl) rfl (k := 25) (rs := [.tmp 4]) (by kernel_rfl) (by kernel_rfl) ?_
    (conv => whnf) <;> repeat' (first | ((first | refine wN ?_ | refine wNc ?_ | refine wA ?_ | refine wB ?_ | refine wC ?_ | refine wD ?_ | refine vA ?_ | refine vB ?_ | refine vC ?_ | refine vD ?_ | refine uA ?_ | refine uB ?_ | refine uC ?_ | refine uD ?_); conv => whnf) | ((first | apply Pick.dec | apply Pick.beq | apply Cond.dec | apply Cond.beq | apply Cond.nd | apply Pick.nd | apply Pick.mk | apply Cond.mk) <;> intro h <;> conv => whnf))
    exact End.mk rfl rfl
  | succ d ihd =>
    intro hd x hx
    have ihd := ihd (by omega)
    obtain ⟨k, o, n, s, v, sc, p, l⟩ := x
    have hlen : l.length ≤ maxLen := hx.one.len
    have hm : maxLen ≤ 9223372036854775807 := by decide
    have hw : ∀ y, y ∈ l → y.Wf := fun y hy => hx.arg hy
    have e0 : sizeE (d + 1) (.mk k o n s v sc p l) = sizeL d 1 l := by unfold sizeE; rfl
    have ed : IntKind.i64.wrap (((d + 1 : Nat) : Int) - 1) = (d : Int) := by rw [wi64_id (by omega) (by omega)]; omega
    rw [e0, cE_mk]
    refine ret_of_body atCalls tok mixed Tryz.func29 (by kernel_rfl) rfl (k := 25) (rs := [.tmp 4]) (by kernel_rfl) (by kernel_rfl) ?_
    (conv => whnf) <;> repeat' (first | ((first | refine wN ?_ | refine wNc ?_ | refine wA ?_ | refine wB ?_ | refine wC ?_ | refine wD ?_ | refine vA ?_ | refine vB ?_ | refine vC ?_ | refine vD ?_ | refine uA ?_ | refine uB ?_ | refine uC ?_ | refine uD ?_); conv => whnf) | ((first | apply Pick.dec | apply Pick.beq | apply Cond.dec | apply Cond.beq | apply Cond.nd | apply Pick.nd | apply Pick.mk | apply Cond.mk) <;> intro h <;> conv => whnf))
    intro I hwk hs
    have turn : ∀ (m i : Nat) (a : Int), i + m = l.length → sizeL d 1 l = sizeL d a (l.drop i) →
        I [.und, .int .i64 ((d + 1 : Nat) : Int), .ptr 0 0, .und, .und, .int .i64 a, .und, .und, .und, .und, .und, .ext 17 l.length (Xp.rows l), .int .i64 (l.length : Int), .int .i64 (i : Int), .und, .und, .und, .und, .und, .und, .und, .und, .und, .und, .und] [.cells (cE (.mk k o n s v sc p l))] := by
      intro m
      induction m with
      | zero =>
        intro i a hi ha
        apply hs
        conv => whnf
        refine Cond.ff (decF (by omega)) ?_
        (conv => whnf) <;> repeat' (first | ((first | refine wN ?_ | refine wNc ?_ | refine wA ?_ | refine wB ?_ | refine wC ?_ | refine wD ?_ | refine vA ?_ | refine vB ?_ | refine vC ?_ | refine vD ?_ | refine uA ?_ | refine uB ?_ | refine uC ?_ | refine uD ?_); conv => whnf) | ((first | apply Pick.dec | apply Pick.beq | apply Cond.dec | apply Cond.beq | apply Cond.nd | apply Pick.nd | apply Pick.mk | apply Cond.mk) <;> intro h <;> conv => whnf))
        refine End.mk (int_eq ?_) rfl
        rw [ha, List.drop_of_length_le (by omega)]; unfold sizeL; rfl
      | succ m ih =>
        intro i a hi ha
        have hil : i < l.length := by omega
        have gk : Xp.rows l (Int.toNat (i : Int)) = cE l[i] := by rw [Int.toNat_natCast]; exact (Xp.rows_ext l).2 i hil
        have e1 : IntKind.i64.wrap ((i : Int) + 1) = ((i + 1 : Nat) : Int) := by rw [wi64_id (by omega) (by omega)]; omega
        have hc := ihd l[i] (hw _ (List.getElem_mem hil))
        rw [List.drop_eq_getElem_cons hil] at ha
        generalize l[i] = y at *
        apply hs
        conv => whnf
        refine Cond.tt (decT (by omega)) ?_
        (conv => whnf) <;> repeat' (first | ((conv => arg 1; whnf); rw [gk]; conv => whnf) | (rw [ed]; conv => whnf) | ((first | refine wN ?_ | refine wNc ?_ | refine wA ?_ | refine wB ?_ | refine wC ?_ | refine wD ?_ | refine Called.mk _ _ (hc) ?_ | refine vA ?_ | refine vB ?_ | refine vC ?_ | refine vD ?_ | refine uA ?_ | refine uB ?_ | refine uC ?_ | refine uD ?_); conv => whnf) | ((first | apply Pick.dec | apply Pick.beq | apply Cond.dec | apply Cond.beq | apply Cond.nd | apply Pick.nd | apply Pick.mk | apply Cond.mk) <;> intro h <;> conv => whnf))
        rw [e1]
        apply hwk [0] [false, true, true, false, false, true, false, false, false, false, false, true, true, true] _ _ rfl
        refine ih (i + 1) _ (by omega) (ha.trans ?_)
        exact sizeL_cons d a y (l.drop (i + 1))
    apply hwk [0] [false, true, true, false, false, true, false, false, false, false, false, true, true, true] _ _ rfl
    exact turn l.length 0 1 (by omega) rfl
theorem ffits_ret (x : Xp) (hx : x.Wf) : Ret Tryz.prog 10 [eE x] [] (.bool (decide (sizeE 60 x ≤ 2000))) [] := by
  have h := fsize_ret 60 (by omega) x hx
  refine ret_of_body atCalls tok mixed Tryz.func10 (by kernel_rfl) rfl (k := 6) (rs := [.tmp 2]) (by kernel_rfl) (by kernel_rfl) ?_
  (conv => whnf) <;> repeat' (first | ((first | refine wN ?_ | refine wNc ?_ | refine wA ?_ | refine wB ?_ | refine wC ?_ | refine wD ?_ | refine Called.mk _ _ (h) ?_ | refine vA ?_ | refine vB ?_ | refine vC ?_ | refine vD ?_ | refine uA ?_ | refine uB ?_ | refine uC ?_ | refine uD ?_); conv => whnf) | ((first | apply Pick.dec | apply Pick.beq | apply Cond.dec | apply Cond.beq | apply Cond.nd | apply Pick.nd | apply Pick.mk | apply Cond.mk) <;> intro h <;> conv => whnf))
  exact End.mk rfl rfl
end Go.Proofs.YtlbocjcponegcaaGreat

set_option linter.unusedVariables false
set_option linter.unusedSimpArgs false
set_option maxRecDepth 100000
namespace Go.Proofs.YtlbocjcponegcaaGreat
open Go.AM
abbrev mapN0 (m : List Nm) : Blk := .map false true [.s] (encM kN cV m)
abbrev mapC0 (m : List Co) : Blk := .map true true [.s, .s] (encM kC cCl m)
set_option maxHeartbeats 8000000 in
theorem fenv_ret (r : Rd) (h1 : r.names.length ≤ 9223372036854775807) (h2 : r.cols.length ≤ 9223372036854775807) : Ret Tryz.prog 12 [eRd r] [] (envV (nilB r.names) (nilB r.cols) r.env) (envH (nilB r.names) (nilB r.cols) r.env) := by
  obtain ⟨ns, cs, ts⟩ := r
  unfold Rd.env eRd
  simp only at *
  cases ns with
  | nil =>
    cases cs with
    | nil =>
      refine ret_of_body atCalls tok mixed Tryz.func12 (by kernel_rfl) rfl (k := 52) (rs := [.cell 2 42]) (by kernel_rfl) (by kernel_rfl) ?_
      (conv => whnf) <;> repeat' (first | (intro I hw hs; apply hs; conv => whnf) | (apply hs; conv => whnf) | ((first | refine wN ?_ | refine wNc ?_ | refine wA ?_ | refine wB ?_ | refine wC ?_ | refine wD ?_ | refine vA ?_ | refine vB ?_ | refine vC ?_ | refine vD ?_ | refine uA ?_ | refine uB ?_ | refine uC ?_ | refine uD ?_); conv => whnf) | ((first | apply Pick.dec | apply Pick.beq | apply Cond.dec | apply Cond.beq | apply Cond.nd | apply Pick.nd | apply Pick.mk | apply Cond.mk) <;> intro h <;> conv => whnf))
      exact End.mk rfl rfl
    | cons c cs =>
      have hpos : (0 : Int) < ((c :: cs).length : Int) := by simp only [List.length_cons]; omega
      refine ret_of_body atCalls tok mixed Tryz.func12 (by kernel_rfl) rfl (k := 52) (rs := [.cell 2 42]) (by kernel_rfl) (by kernel_rfl) ?_
      (conv => whnf) <;> repeat' (first | ((first | refine wN ?_ | refine wNc ?_ | refine wA ?_ | refine wB ?_ | refine wC ?_ | refine wD ?_ | refine vA ?_ | refine vB ?_ | refine vC ?_ | refine vD ?_ | refine uA ?_ | refine uB ?_ | refine uC ?_ | refine uD ?_); conv => whnf) | ((first | apply Pick.dec | apply Pick.beq | apply Cond.dec | apply Cond.beq | apply Cond.nd | apply Pick.nd | apply Pick.mk | apply Cond.mk) <;> intro h <;> conv => whnf))
      intro I hw hs
      apply hs
      conv => whnf
      refine Cond.ff rfl ?_
      (conv => whnf) <;> repeat' (first | ((first | refine wN ?_ | refine wNc ?_ | refine wA ?_ | refine wB ?_ | refine wC ?_ | refine wD ?_ | refine vA ?_ | refine vB ?_ | refine vC ?_ | refine vD ?_ | refine uA ?_ | refine uB ?_ | refine uC ?_ | refine uD ?_); conv => whnf) | ((first | apply Pick.dec | apply Pick.beq | apply Cond.dec | apply Cond.beq | apply Cond.nd | apply Pick.nd | apply Pick.mk | apply Cond.mk) <;> intro h <;> conv => whnf))
      intro J jw js
      have turn2 : ∀ (d k : Nat) (m : List Co), k + d = (c :: cs).length → putAll [] (c :: cs) = putAll m ((c :: cs).drop k) → J [.und, .ptr 0 0, .ptr 1 0, .ptr 2 0, .und, .und, .und, .und, .und, .und, .und, .und, .und, .und, .und, .und, .und, .und, .und, .und, .und, .und, .und, .und, .und, .und, .und, .und, .und, .und, .und, .und, .und, .und, .und, .und, .und, .und, eL 26 cCo (c :: cs), .int .i64 ((c :: cs).length : Int), .int .i64 (k : Int), .und, .und, .und, .und, .und, .und, .und, .und, .und, .und, .und] [.cells [eL 11 cNm [], eL 26 cCo (c :: cs), eL 2 cTb ts], .cells [.nilm, .nilm, .nils], .cells [.nilm, .map 3, eL 2 cTb ts], mapC0 m] := by
        intro d
        induction d with
        | zero =>
          intro k m hk hm
          have hm : putAll [] (c :: cs) = m := by rw [hm, List.drop_of_length_le (by omega)]; rfl
          apply js
          conv => whnf
          refine Cond.ff (decF (by omega)) ?_
          (conv => whnf) <;> repeat' (first | ((first | refine wN ?_ | refine wNc ?_ | refine wA ?_ | refine wB ?_ | refine wC ?_ | refine wD ?_ | refine vA ?_ | refine vB ?_ | refine vC ?_ | refine vD ?_ | refine uA ?_ | refine uB ?_ | refine uC ?_ | refine uD ?_); conv => whnf) | ((first | apply Pick.dec | apply Pick.beq | apply Cond.dec | apply Cond.beq | apply Cond.nd | apply Pick.nd | apply Pick.mk | apply Cond.mk) <;> intro h <;> conv => whnf))
          exact EndH.mk [3] rfl rfl (by rw [← hm]; rfl)
        | succ d ih =>
          intro k m hk hm
          have hkl : k < (c :: cs).length := by omega
          have gk : getL cCo (c :: cs) (Int.toNat (k : Int)) = cCo (c :: cs)[k] := by rw [Int.toNat_natCast]; exact getL_at (List.getElem?_eq_getElem hkl)
          have e1 : IntKind.i64.wrap ((k : Int) + 1) = ((k + 1 : Nat) : Int) := by rw [wi64_id (by omega) (by omega)]; omega
          rw [List.drop_eq_getElem_cons hkl] at hm
          generalize (c :: cs)[k] = y at *
          have hP : mput [.s y.1.1, .s y.1.2] (cCl y.2) (encM kC cCl m) = encM kC cCl (aput y.1 y.2 m) := mput_enc kC_inj y.1 y.2 m
          simp only [cCl, cS, List.cons_append, List.nil_append] at hP
          apply js
          conv => whnf
          refine Cond.tt (decT (by omega)) ?_
          (conv => whnf) <;> repeat' (first | ((conv => arg 1; whnf); rw [gk]; conv => whnf) | ((first | refine wN ?_ | refine wNc ?_ | refine wA ?_ | refine wB ?_ | refine wC ?_ | refine wD ?_ | refine vA ?_ | refine vB ?_ | refine vC ?_ | refine vD ?_ | refine uA ?_ | refine uB ?_ | refine uC ?_ | refine uD ?_); conv => whnf) | ((first | apply Pick.dec | apply Pick.beq | apply Cond.dec | apply Cond.beq | apply Cond.nd | apply Pick.nd | apply Pick.mk | apply Cond.mk) <;> intro h <;> conv => whnf))
          rw [e1, hP]
          apply jw [0, 1, 2, 3] [false, true, true, true, false, false, false, false, false, false, false, false, false, false, false, false, false, false, false, false, false, false, false, false, false, false, false, false, false, false, false, false, false, false, false, false, false, false, true, true, true] _ _ rfl
          exact ih (k + 1) _ (by omega) hm
      apply jw [0, 1, 2, 3] [false, true, true, true, false, false, false, false, false, false, false, false, false, false, false, false, false, false, false, false, false, false, false, false, false, false, false, false, false, false, false, false, false, false, false, false, false, false, true, true, true] _ _ rfl
      exact turn2 (c :: cs).length 0 [] (by omega) rfl
  | cons n ns =>
    have hposn : (0 : Int) < ((n :: ns).length : Int) := by simp only [List.length_cons]; omega
    cases cs with
    | nil =>
      refine ret_of_body atCalls tok mixed Tryz.func12 (by kernel_rfl) rfl (k := 52) (rs := [.cell 2 42]) (by kernel_rfl) (by kernel_rfl) ?_
      (conv => whnf) <;> repeat' (first | ((first | refine wN ?_ | refine wNc ?_ | refine wA ?_ | refine wB ?_ | refine wC ?_ | refine wD ?_ | refine vA ?_ | refine vB ?_ | refine vC ?_ | refine vD ?_ | refine uA ?_ | refine uB ?_ | refine uC ?_ | refine uD ?_); conv => whnf) | ((first | apply Pick.dec | apply Pick.beq | apply Cond.dec | apply Cond.beq | apply Cond.nd | apply Pick.nd | apply Pick.mk | apply Cond.mk) <;> intro h <;> conv => whnf))
      intro I hw hs
      have turn : ∀ (d k : Nat) (m : List Nm), k + d = (n :: ns).length → putAll [] (n :: ns) = putAll m ((n :: ns).drop k) → I [.und, .ptr 0 0, .ptr 1 0, .ptr 2 0, .und, .und, .und, .und, .und, .und, .und, .und, .und, .und, .und, .und, .und, .und, eL 11 cNm (n :: ns), .int .i64 ((n :: ns).length : Int), .int .i64 (k : Int), .und, .und, .und, .und, .und, .und, .und, .und, .und, .und, .und, .und, .und, .und, .und, .und, .und, .und, .und, .und, .und, .und, .und, .und, .und, .und, .und, .und, .und, .und, .und] [.cells [eL 11 cNm (n :: ns), eL 26 cCo [], eL 2 cTb ts], .cells [.nilm, .nilm, .nils], .cells [.map 3, .nilm, eL 2 cTb ts], mapN0 m] := by
        intro d
        induction d with
        | zero =>
          intro k m hk hm
          have hm : putAll [] (n :: ns) = m := by rw [hm, List.drop_of_length_le (by omega)]; rfl
          subst hm
          apply hs
          conv => whnf
          refine Cond.ff (decF (by omega)) ?_
          (conv => whnf) <;> repeat' (first | (intro I hw hs; apply hs; conv => whnf) | (apply hs; conv => whnf) | ((first | refine wN ?_ | refine wNc ?_ | refine wA ?_ | refine wB ?_ | refine wC ?_ | refine wD ?_ | refine vA ?_ | refine vB ?_ | refine vC ?_ | refine vD ?_ | refine uA ?_ | refine uB ?_ | refine uC ?_ | refine uD ?_); conv => whnf) | ((first | apply Pick.dec | apply Pick.beq | apply Cond.dec | apply Cond.beq | apply Cond.nd | apply Pick.nd | apply Pick.mk | apply Cond.mk) <;> intro h <;> conv => whnf))
          exact EndH.mk [3] rfl rfl rfl
        | succ d ih =>
          intro k m hk hm
          have hkl : k < (n :: ns).length := by omega
          have gk : getL cNm (n :: ns) (Int.toNat (k : Int)) = cNm (n :: ns)[k] := by rw [Int.toNat_natCast]; exact getL_at (List.getElem?_eq_getElem hkl)
          have e1 : IntKind.i64.wrap ((k : Int) + 1) = ((k + 1 : Nat) : Int) := by rw [wi64_id (by omega) (by omega)]; omega
          rw [List.drop_eq_getElem_cons hkl] at hm
          generalize (n :: ns)[k] = y at *
          have hP : mput [.s y.1] (cV y.2) (encM kN cV m) = encM kN cV (aput y.1 y.2 m) := mput_enc kN_inj y.1 y.2 m
          simp only [cV] at hP
          apply hs
          conv => whnf
          refine Cond.tt (decT (by omega)) ?_
          (conv => whnf) <;> repeat' (first | ((conv => arg 1; whnf); rw [gk]; conv => whnf) | ((first | refine wN ?_ | refine wNc ?_ | refine wA ?_ | refine wB ?_ | refine wC ?_ | refine wD ?_ | refine vA ?_ | refine vB ?_ | refine vC ?_ | refine vD ?_ | refine uA ?_ | refine uB ?_ | refine uC ?_ | refine uD ?_); conv => whnf) | ((first | apply Pick.dec | apply Pick.beq | apply Cond.dec | apply Cond.beq | apply Cond.nd | apply Pick.nd | apply Pick.mk | apply Cond.mk) <;> intro h <;> conv => whnf))
          rw [e1, hP]
          apply hw [0, 1, 2, 3] [false, true, true, true, false, false, false, false, false, false, false, false, false, false, false, false, false, false, true, true, true] _ _ rfl
          exact ih (k + 1) _ (by omega) hm
      apply hw [0, 1, 2, 3] [false, true, true, true, false, false, false, false, false, false, false, false, false, false, false, false, false, false, true, true, true] _ _ rfl
      exact turn (n :: ns).length 0 [] (by omega) rfl
    | cons c cs =>
      have hpos : (0 : Int) < ((c :: cs).length : Int) := by simp only [List.length_cons]; omega
      refine ret_of_body atCalls tok mixed Tryz.func12 (by kernel_rfl) rfl (k := 52) (rs := [.cell 2 42]) (by kernel_rfl) (by kernel_rfl) ?_
      (conv => whnf) <;> repeat' (first | ((first | refine wN ?_ | refine wNc ?_ | refine wA ?_ | refine wB ?_ | refine wC ?_ | refine wD ?_ | refine vA ?_ | refine vB ?_ | refine vC ?_ | refine vD ?_ | refine uA ?_ | refine uB ?_ | refine uC ?_ | refine uD ?_); conv => whnf) | ((first | apply Pick.dec | apply Pick.beq | apply Cond.dec | apply Cond.beq | apply Cond.nd | apply Pick.nd | apply Pick.mk | apply Cond.mk) <;> intro h <;> conv => whnf))
      intro I hw hs
      have turn : ∀ (d k : Nat) (m : List Nm), k + d = (n :: ns).length → putAll [] (n :: ns) = putAll m ((n :: ns).drop k) → I [.und, .ptr 0 0, .ptr 1 0, .ptr 2 0, .und, .und, .und, .und, .und, .und, .und, .und, .und, .und, .und, .und, .und, .und, eL 11 cNm (n :: ns), .int .i64 ((n :: ns).length : Int), .int .i64 (k : Int), .und, .und, .und, .und, .und, .und, .und, .und, .und, .und, .und, .und, .und, .und, .und, .und, .und, .und, .und, .und, .und, .und, .und, .und, .und, .und, .und, .und, .und, .und, .und] [.cells [eL 11 cNm (n :: ns), eL 26 cCo (c :: cs), eL 2 cTb ts], .cells [.nilm, .nilm, .nils], .cells [.map 3, .nilm, eL 2 cTb ts], mapN0 m] := by
        intro d
        induction d with
        | zero =>
          intro k m hk hm
          have hm : putAll [] (n :: ns) = m := by rw [hm, List.drop_of_length_le (by omega)]; rfl
          subst hm
          apply hs
          conv => whnf
          refine Cond.ff (decF (by omega)) ?_
          (conv => whnf) <;> repeat' (first | ((first | refine wN ?_ | refine wNc ?_ | refine wA ?_ | refine wB ?_ | refine wC ?_ | refine wD ?_ | refine vA ?_ | refine vB ?_ | refine vC ?_ | refine vD ?_ | refine uA ?_ | refine uB ?_ | refine uC ?_ | refine uD ?_); conv => whnf) | ((first | apply Pick.dec | apply Pick.beq | apply Cond.dec | apply Cond.beq | apply Cond.nd | apply Pick.nd | apply Pick.mk | apply Cond.mk) <;> intro h <;> conv => whnf))
          intro J jw js
          have turn2 : ∀ (d k : Nat) (m : List Co), k + d = (c :: cs).length → putAll [] (c :: cs) = putAll m ((c :: cs).drop k) → J [.und, .ptr 0 0, .ptr 1 0, .ptr 2 0, .und, .und, .und, .und, .und, .und, .und, .und, .und, .und, .und, .und, .und, .und, .und, .und, .und, .und, .und, .und, .und, .und, .und, .und, .und, .und, .und, .und, .und, .und, .und, .und, .und, .und, eL 26 cCo (c :: cs), .int .i64 ((c :: cs).length : Int), .int .i64 (k : Int), .und, .und, .und, .und, .und, .und, .und, .und, .und, .und, .und] [.cells [eL 11 cNm (n :: ns), eL 26 cCo (c :: cs), eL 2 cTb ts], .cells [.nilm, .nilm, .nils], .cells [.map 3, .map 4, eL 2 cTb ts], mapN0 (putAll [] (n :: ns)), mapC0 m] := by
            intro d
            induction d with
            | zero =>
              intro k m hk hm
              have hm : putAll [] (c :: cs) = m := by rw [hm, List.drop_of_length_le (by omega)]; rfl
              apply js
              conv => whnf
              refine Cond.ff (decF (by omega)) ?_
              (conv => whnf) <;> repeat' (first | ((first | refine wN ?_ | refine wNc ?_ | refine wA ?_ | refine wB ?_ | refine wC ?_ | refine wD ?_ | refine vA ?_ | refine vB ?_ | refine vC ?_ | refine vD ?_ | refine uA ?_ | refine uB ?_ | refine uC ?_ | refine uD ?_); conv => whnf) | ((first | apply Pick.dec | apply Pick.beq | apply Cond.dec | apply Cond.beq | apply Cond.nd | apply Pick.nd | apply Pick.mk | apply Cond.mk) <;> intro h <;> conv => whnf))
              exact EndH.mk [3, 4] rfl rfl (by rw [← hm]; rfl)
            | succ d ih =>
              intro k m hk hm
              have hkl : k < (c :: cs).length := by omega
              have gk : getL cCo (c :: cs) (Int.toNat (k : Int)) = cCo (c :: cs)[k] := by rw [Int.toNat_natCast]; exact getL_at (List.getElem?_eq_getElem hkl)
              have e1 : IntKind.i64.wrap ((k : Int) + 1) = ((k + 1 : Nat) : Int) := by rw [wi64_id (by omega) (by omega)]; omega
              rw [List.drop_eq_getElem_cons hkl] at hm
              generalize (c :: cs)[k] = y at *
              have hP : mput [.s y.1.1, .s y.1.2] (cCl y.2) (encM kC cCl m) = encM kC cCl (aput y.1 y.2 m) := mput_enc kC_inj y.1 y.2 m
              simp only [cCl, cS, List.cons_append, List.nil_append] at hP
              apply js
              conv => whnf
              refine Cond.tt (decT (by omega)) ?_
              (conv => whnf) <;> repeat' (first | ((conv => arg 1; whnf); rw [gk]; conv => whnf) | ((first | refine wN ?_ | refine wNc ?_ | refine wA ?_ | refine wB ?_ | refine wC ?_ | refine wD ?_ | refine vA ?_ | refine vB ?_ | refine vC ?_ | refine vD ?_ | refine uA ?_ | refine uB ?_ | refine uC ?_ | refine uD ?_); conv => whnf) | ((first | apply Pick.dec | apply Pick.beq | apply Cond.dec | apply Cond.beq | apply Cond.nd | apply Pick.nd | apply Pick.mk | apply Cond.mk) <;> intro h <;> conv => whnf))
              rw [e1, hP]
              apply jw [0, 1, 2, 3, 4] [false, true, true, true, false, false, false, false, false, false, false, false, false, false, false, false, false, false, false, false, false, false, false, false, false, false, false, false, false, false, false, false, false, false, false, false, false, false, true, true, true] _ _ rfl
              exact ih (k + 1) _ (by omega) hm
          apply jw [0, 1, 2, 3, 4] [false, true, true, true, false, false, false, false, false, false, false, false, false, false, false, false, false, false, false, false, false, false, false, false, false, false, false, false, false, false, false, false, false, false, false, false, false, false, true, true, true] _ _ rfl
          exact turn2 (c :: cs).length 0 [] (by omega) rfl
        | succ d ih =>
          intro k m hk hm
          have hkl : k < (n :: ns).length := by omega
          have gk : getL cNm (n :: ns) (Int.toNat (k : Int)) = cNm (n :: ns)[k] := by rw [Int.toNat_natCast]; exact getL_at (List.getElem?_eq_getElem hkl)
          have e1 : IntKind.i64.wrap ((k : Int) + 1) = ((k + 1 : Nat) : Int) := by rw [wi64_id (by omega) (by omega)]; omega
          rw [List.drop_eq_getElem_cons hkl] at hm
          generalize (n :: ns)[k] = y at *
          have hP : mput [.s y.1] (cV y.2) (encM kN cV m) = encM kN cV (aput y.1 y.2 m) := mput_enc kN_inj y.1 y.2 m
          simp only [cV] at hP
          apply hs
          conv => whnf
          refine Cond.tt (decT (by omega)) ?_
          (conv => whnf) <;> repeat' (first | ((conv => arg 1; whnf); rw [gk]; conv => whnf) | ((first | refine wN ?_ | refine wNc ?_ | refine wA ?_ | refine wB ?_ | refine wC ?_ | refine wD ?_ | refine vA ?_ | refine vB ?_ | refine vC ?_ | refine vD ?_ | refine uA ?_ | refine uB ?_ | refine uC ?_ | refine uD ?_); conv => whnf) | ((first | apply Pick.dec | apply Pick.beq | apply Cond.dec | apply Cond.beq | apply Cond.nd | apply Pick.nd | apply Pick.mk | apply Cond.mk) <;> intro h <;> conv => whnf))
          rw [e1, hP]
          apply hw [0, 1, 2, 3] [false, true, true, true, false, false, false, false, false, false, false, false, false, false, false, false, false, false, true, true, true] _ _ rfl
          exact ih (k + 1) _ (by omega) hm
      apply hw [0, 1, 2, 3] [false, true, true, true, false, false, false, false, false, false, false, false, false, false, false, false, false, false, true, true, true] _ _ rfl
      exact turn (n :: ns).length 0 [] (by omega) rfl
end Go.Proofs.YtlbocjcponegcaaGreat

