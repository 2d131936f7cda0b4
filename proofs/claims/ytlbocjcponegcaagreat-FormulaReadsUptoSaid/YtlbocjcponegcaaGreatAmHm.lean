/- exciselaw17.size, fits. -/
import Derived.Test.YtlbocjcponegcaaGreatAmHl
import Derived.Test.YtlbocjcponegcaaGreatAmHi
set_option linter.unusedVariables false
set_option linter.unusedSimpArgs false
set_option maxRecDepth 100000
namespace Go.Proofs.YtlbocjcponegcaaGreat
open Go.AM
theorem fsize_ret : ∀ (d : Nat), d ≤ 60 → ∀ (x : Xp), x.Wf → Ret Tryz.prog 29 [eE x, .int .i64 (d : Int)] [] (.int .i64 (sizeE d x)) [] := by
  intro d
  induction d with
  | zero =>
    intro _ x _
    have e0 : sizeE 0 x = 10000 := by unfold sizeE; rfl
    rw [e0]
    refine ret_of_body atCalls tok mixed Tryz.func29 (by kernel_rfl) rfl (k := 25) (rs := [.tmp 4]) (by kernel_rfl) (by kernel_rfl) ?_
    (conv => whnf) <;> repeat' (first | ((first | refine wN ?_ | refine wNc ?_ | refine wA ?_ | refine wB ?_ | refine wC ?_ | refine wD ?_ | refine vA ?_ | refine vB ?_ | refine vC ?_ | refine vD ?_ | refine uA ?_ | refine uB ?_ | refine uC ?_ | refine uD ?_); conv => whnf) | ((first | apply Pick.dec | apply Pick.beq | apply Cond.dec | apply Cond.beq | apply Cond.nd | apply Pick.nd | apply Pick.mk | apply Cond.mk) <;> intro h <;> conv => whnf))
    exact End.mk rfl rfl
  | succ d ihd =>
    intro hd x hx
    have ihd := ihd (by omega)
    obtain ⟨k, o, n, s, v, sc, p, l⟩ := x
    have hlen : l.length ≤ maxLen := hx.one.len
    have hm : maxLen ≤ 9223372036854775807 := by decide
    have hw : ∀ y, y ∈ l → y.Wf := fun y hy => hx.arg hy
    have e0 : sizeE (d + 1) (.mk k o n s v sc p l) = sizeL d 1 l := by unfold sizeE; rfl
    have ed : IntKind.i64.wrap (((d + 1 : Nat) : Int) - 1) = (d : Int) := by rw [wi64_id (by omega) (by omega)]; omega
    rw [e0, cE_mk]
    refine ret_of_body atCalls tok mixed Tryz.func29 (by kernel_rfl) rfl (k := 25) (rs := [.tmp 4]) (by kernel_rfl) (by kernel_rfl) ?_
    (conv => whnf) <;> repeat' (first | ((first | refine wN ?_ | refine wNc ?_ | refine wA ?_ | refine wB ?_ | refine wC ?_ | refine wD ?_ | refine vA ?_ | refine vB ?_ | refine vC ?_ | refine vD ?_ | refine uA ?_ | refine uB ?_ | refine uC ?_ | refine uD ?_); conv => whnf) | ((first | apply Pick.dec | apply Pick.beq | apply Cond.dec | apply Cond.beq | apply Cond.nd | apply Pick.nd | apply Pick.mk | apply Cond.mk) <;> intro h <;> conv => whnf))
    intro I hwk hs
    have turn : ∀ (m i : Nat) (a : Int), i + m = l.length → sizeL d 1 l = sizeL d a (l.drop i) →
        I [.und, .int .i64 ((d + 1 : Nat) : Int), .ptr 0 0, .und, .und, .int .i64 a, .und, .und, .und, .und, .und, .ext 17 l.length (Xp.rows l), .int .i64 (l.length : Int), .int .i64 (i : Int), .und, .und, .und, .und, .und, .und, .und, .und, .und, .und, .und] [.cells (cE (.mk k o n s v sc p l))] := by
      intro m
      induction m with
      | zero =>
        intro i a hi ha
        apply hs
        conv => whnf
        refine Cond.ff (decF (by omega)) ?_
        (conv => whnf) <;> repeat' (first | ((first | refine wN ?_ | refine wNc ?_ | refine wA ?_ | refine wB ?_ | refine wC ?_ | refine wD ?_ | refine vA ?_ | refine vB ?_ | refine vC ?_ | refine vD ?_ | refine uA ?_ | refine uB ?_ | refine uC ?_ | refine uD ?_); conv => whnf) | ((first | apply Pick.dec | apply Pick.beq | apply Cond.dec | apply Cond.beq | apply Cond.nd | apply Pick.nd | apply Pick.mk | apply Cond.mk) <;> intro h <;> conv => whnf))
        refine End.mk (int_eq ?_) rfl
        rw [ha, List.drop_of_length_le (by omega)]; unfold sizeL; rfl
      | succ m ih =>
        intro i a hi ha
        have hil : i < l.length := by omega
        have gk : Xp.rows l (Int.toNat (i : Int)) = cE l[i] := by rw [Int.toNat_natCast]; exact (Xp.rows_ext l).2 i hil
        have e1 : IntKind.i64.wrap ((i : Int) + 1) = ((i + 1 : Nat) : Int) := by rw [wi64_id (by omega) (by omega)]; omega
        have hc := ihd l[i] (hw _ (List.getElem_mem hil))
        rw [List.drop_eq_getElem_cons hil] at ha
        generalize l[i] = y at *
        apply hs
        conv => whnf
        refine Cond.tt (decT (by omega)) ?_
        (conv => whnf) <;> repeat' (first | ((conv => arg 1; whnf); rw [gk]; conv => whnf) | (rw [ed]; conv => whnf) | ((first | refine wN ?_ | refine wNc ?_ | refine wA ?_ | refine wB ?_ | refine wC ?_ | refine wD ?_ | refine Called.mk _ _ (hc) ?_ | refine vA ?_ | refine vB ?_ | refine vC ?_ | refine vD ?_ | refine uA ?_ | refine uB ?_ | refine uC ?_ | refine uD ?_); conv => whnf) | ((first | apply Pick.dec | apply Pick.beq | apply Cond.dec | apply Cond.beq | apply Cond.nd | apply Pick.nd | apply Pick.mk | apply Cond.mk) <;> intro h <;> conv => whnf))
        rw [e1]
        apply hwk [0] [false, true, true, false, false, true, false, false, false, false, false, true, true, true] _ _ rfl
        refine ih (i + 1) _ (by omega) (ha.trans ?_)
        exact sizeL_cons d a y (l.drop (i + 1))
    apply hwk [0] [false, true, true, false, false, true, false, false, false, false, false, true, true, true] _ _ rfl
    exact turn l.length 0 1 (by omega) rfl
theorem ffits_ret (x : Xp) (hx : x.Wf) : Ret Tryz.prog 10 [eE x] [] (.bool (decide (sizeE 60 x ≤ 2000))) [] := by
  have h := fsize_ret 60 (by omega) x hx
  refine ret_of_body atCalls tok mixed Tryz.func10 (by kernel_rfl) rfl (k := 6) (rs := [.tmp 2]) (by kernel_rfl) (by kernel_rfl) ?_
  (conv => whnf) <;> repeat' (first | ((first | refine wN ?_ | refine wNc ?_ | refine wA ?_ | refine wB ?_ | refine wC ?_ | refine wD ?_ | refine Called.mk _ _ (h) ?_ | refine vA ?_ | refine vB ?_ | refine vC ?_ | refine vD ?_ | refine uA ?_ | refine uB ?_ | refine uC ?_ | refine uD ?_); conv => whnf) | ((first | apply Pick.dec | apply Pick.beq | apply Cond.dec | apply Cond.beq | apply Cond.nd | apply Pick.nd | apply Pick.mk | apply Cond.mk) <;> intro h <;> conv => whnf))
  exact End.mk rfl rfl
end Go.Proofs.YtlbocjcponegcaaGreat

