/- bracket.Check, exciseref14.Check. -/
import Derived.Test.YtlbocjcponegcaaGreatAmGQ
import Derived.Test.YtlbocjcponegcaaGreatAmGV
set_option linter.unusedVariables false
set_option linter.unusedSimpArgs false
set_option maxRecDepth 100000
namespace Go.Proofs.YtlbocjcponegcaaGreat
open Go.AM
theorem stp_bad {s : Stp} (h : ¬ s.ok) : (¬ s.fr.ok) ∨ (s.fr.ok ∧ ¬ s.base.ok) ∨ (s.fr.ok ∧ s.base.ok ∧ ¬ s.rate.ok) := by
  unfold Stp.ok at h
  by_cases h1 : s.fr.ok
  · by_cases h2 : s.base.ok
    · exact .inr (.inr ⟨h1, h2, fun h3 => h ⟨h1, h2, h3⟩⟩)
    · exact .inr (.inl ⟨h1, h2⟩)
  · exact .inl h1
theorem allOk_not {l : List Stp} (h : ¬ AllOk l) : ∃ i, ∃ h : i < l.length, ¬ l[i].ok := by
  unfold AllOk at h
  exact Classical.byContradiction fun hn => h fun i hi => Classical.byContradiction fun hk => hn ⟨i, hi, hk⟩
theorem rise_not {l : List Stp} (h : ¬ Rise l) : ∃ i, ∃ h : i + 1 < l.length, ¬ l[i].fr.val < l[i + 1].fr.val := by
  unfold Rise at h
  exact Classical.byContradiction fun hn => h fun i hi => Classical.byContradiction fun hk => hn ⟨i, hi, hk⟩
set_option maxHeartbeats 4000000 in
theorem bCheck_ret (nm : ByteArray) (n : Nat) (g : Nat → List Val) (l : List Stp) (hE : ExtL cSt n g l) : Ret Tryz.prog 155 [.agg [.str nm, .ext 18 n g]] [] (.int .i64 (checkT l)) [] := by
  obtain ⟨rfl, hE⟩ := hE
  by_cases h1 : 32 < l.length
  · rw [show checkT l = 3 from if_pos h1]
    refine ret_of_body atNone tok mixed Tryz.func155 (by kernel_rfl) rfl (k := 67) (rs := [.tmp 2]) (by kernel_rfl) (by kernel_rfl) ?_
    (conv => whnf) <;> repeat' (first | ((first | refine wN ?_ | refine wNc ?_ | refine wA ?_ | refine wB ?_ | refine wC ?_ | refine wD ?_ | refine vA ?_ | refine vB ?_ | refine vC ?_ | refine vD ?_ | refine uA ?_ | refine uB ?_ | refine uC ?_ | refine uD ?_); conv => whnf) | ((first | apply Pick.dec | apply Pick.beq | apply Cond.dec | apply Cond.beq | apply Cond.nd | apply Pick.nd | apply Pick.mk | apply Cond.mk) <;> intro h <;> conv => whnf))
    exact End.mk rfl rfl
  by_cases h2 : l.length = 0
  · rw [show checkT l = 140 from by unfold checkT; rw [if_neg h1, if_pos h2]]
    refine ret_of_body atNone tok mixed Tryz.func155 (by kernel_rfl) rfl (k := 67) (rs := [.tmp 2]) (by kernel_rfl) (by kernel_rfl) ?_
    (conv => whnf) <;> repeat' (first | ((first | refine wN ?_ | refine wNc ?_ | refine wA ?_ | refine wB ?_ | refine wC ?_ | refine wD ?_ | refine vA ?_ | refine vB ?_ | refine vC ?_ | refine vD ?_ | refine uA ?_ | refine uB ?_ | refine uC ?_ | refine uD ?_); conv => whnf) | ((first | apply Pick.dec | apply Pick.beq | apply Cond.dec | apply Cond.beq | apply Cond.nd | apply Pick.nd | apply Pick.mk | apply Cond.mk) <;> intro h <;> conv => whnf))
    exact End.mk rfl rfl
  by_cases h3 : AllOk l
  · refine ret_of_body atNone tok mixed Tryz.func155 (by kernel_rfl) rfl (k := 67) (rs := [.tmp 2]) (by kernel_rfl) (by kernel_rfl) ?_
    (conv => whnf) <;> repeat' (first | ((first | refine wN ?_ | refine wNc ?_ | refine wA ?_ | refine wB ?_ | refine wC ?_ | refine wD ?_ | refine vA ?_ | refine vB ?_ | refine vC ?_ | refine vD ?_ | refine uA ?_ | refine uB ?_ | refine uC ?_ | refine uD ?_); conv => whnf) | ((first | apply Pick.dec | apply Pick.beq | apply Cond.dec | apply Cond.beq | apply Cond.nd | apply Pick.nd | apply Pick.mk | apply Cond.mk) <;> intro h <;> conv => whnf))
    intro J jw js
    have key : ∀ (d k : Nat), k + d = l.length → J [.und, .ptr 0 0, .int .i64 0, .und, .und, .und, .und, .und, .und, .und, .und, .und, .und, .und, .und, .und, .und, .und, .und, .und, .ext 18 l.length g, .int .i64 (l.length : Int), .int .i64 (k : Int), .und, .und, .und, .und, .und, .und, .und, .und, .und, .und, .und, .und, .und, .und, .und, .und, .und, .und, .und, .und, .und, .und, .und, .und, .und, .und, .und, .und, .und, .und, .und, .und, .und, .und, .und, .und, .und, .und, .und, .und, .und, .und, .und, .und] [.cells [.str nm, .ext 18 l.length g]] := by
      intro d
      induction d with
      | zero =>
        intro k hk
        apply js
        conv => whnf
        refine Cond.ff (decF (by omega)) ?_
        (conv => whnf) <;> repeat' (first | ((first | refine wN ?_ | refine wNc ?_ | refine wA ?_ | refine wB ?_ | refine wC ?_ | refine wD ?_ | refine vA ?_ | refine vB ?_ | refine vC ?_ | refine vD ?_ | refine uA ?_ | refine uB ?_ | refine uC ?_ | refine uD ?_); conv => whnf) | ((first | apply Pick.dec | apply Pick.beq | apply Cond.dec | apply Cond.beq | apply Cond.nd | apply Pick.nd | apply Pick.mk | apply Cond.mk) <;> intro h <;> conv => whnf))
        intro I iw is
        by_cases h4 : Rise l
        · have key2 : ∀ (d k : Nat), k + d = l.length → 0 < k → I [.und, .ptr 0 0, .int .i64 0, .und, .und, .und, .und, .und, .int .i64 (k : Int), .und, .und, .und, .und, .und, .und, .und, .und, .und, .und, .und, .und, .und, .und, .und, .und, .und, .und, .und, .und, .und, .und, .und, .und, .und, .und, .und, .und, .und, .und, .und, .und, .und, .und, .und, .und, .und, .und, .und, .und, .und, .und, .und, .und, .und, .und, .und, .und, .und, .und, .und, .und, .und, .und, .und, .und, .und, .und] [.cells [.str nm, .ext 18 l.length g]] := by
            intro d
            induction d with
            | zero =>
              intro k hk hk0
              apply is
              conv => whnf
              (conv => whnf) <;> repeat' (first | ((first | refine wN ?_ | refine wNc ?_ | refine wA ?_ | refine wB ?_ | refine wC ?_ | refine wD ?_ | refine vA ?_ | refine vB ?_ | refine vC ?_ | refine vD ?_ | refine uA ?_ | refine uB ?_ | refine uC ?_ | refine uD ?_); conv => whnf) | ((first | apply Pick.dec | apply Pick.beq | apply Cond.dec | apply Cond.beq | apply Cond.nd | apply Pick.nd | apply Pick.mk | apply Cond.mk) <;> intro h <;> conv => whnf))
              exact End.mk (int_eq (checkT_ok (by omega) (by omega) h3 h4).symm) rfl
            | succ d ih =>
              intro k hk hk0
              have hlt : k < l.length := by omega
              obtain ⟨j, rfl⟩ : ∃ j, k = j + 1 := ⟨k - 1, by omega⟩
              have e1 : IntKind.i64.wrap (((j + 1 : Nat) : Int) - 1) = (j : Int) := by rw [wi64_id (by omega) (by omega)]; omega
              have e2 : IntKind.i64.wrap (((j + 1 : Nat) : Int) + 1) = ((j + 1 + 1 : Nat) : Int) := by rw [wi64_id (by omega) (by omega)]; omega
              have g1 : g (Int.toNat (j : Int)) = cSt l[j] := by rw [Int.toNat_natCast]; exact hE j (by omega)
              have g2 : g (Int.toNat ((j + 1 : Nat) : Int)) = cSt l[j + 1] := by rw [Int.toNat_natCast]; exact hE (j + 1) hlt
              have hc := DCmp_ret l[j].fr l[j + 1].fr
              rw [cmpD_ok (h3 j (by omega)).1 (h3 (j + 1) hlt).1] at hc
              have hlt2 := cmpZ_lt0.2 (h4 j hlt)
              apply is
              conv => whnf
              (conv => whnf) <;> repeat' (first | (rw [e1]; conv => whnf) | (rw [g1]; conv => whnf) | (rw [g2]; conv => whnf) | ((first | refine wN ?_ | refine wNc ?_ | refine wA ?_ | refine wB ?_ | refine wC ?_ | refine wD ?_ | refine Called.mk _ _ (hc) ?_ | refine vA ?_ | refine vB ?_ | refine vC ?_ | refine vD ?_ | refine uA ?_ | refine uB ?_ | refine uC ?_ | refine uD ?_); conv => whnf) | ((first | apply Pick.dec | apply Pick.beq | apply Cond.dec | apply Cond.beq | apply Cond.nd | apply Pick.nd | apply Pick.mk | apply Cond.mk) <;> intro h <;> conv => whnf))
              rw [e2]
              apply iw [0] [false, true, true, false, false, false, false, false, true] _ _ (by decide)
              exact ih (j + 1 + 1) (by omega) (by omega)
          apply iw [0] [false, true, true, false, false, false, false, false, true] _ _ (by decide)
          exact key2 (l.length - 1) 1 (by omega) (by omega)
        · have ex : ∃ i, 1 ≤ i + 1 ∧ ∃ h : i + 1 < l.length, ¬ l[i].fr.val < l[i + 1].fr.val := by obtain ⟨i, h⟩ := rise_not h4; exact ⟨i, by omega, h⟩
          have hv : checkT l = 140 := by unfold checkT; rw [if_neg h1, if_neg h2, if_neg (fun h => h h3), if_pos h4]
          have key2 : ∀ (d k : Nat), k + d = l.length → 0 < k → (∃ i, k ≤ i + 1 ∧ ∃ h : i + 1 < l.length, ¬ l[i].fr.val < l[i + 1].fr.val) → I [.und, .ptr 0 0, .int .i64 0, .und, .und, .und, .und, .und, .int .i64 (k : Int), .und, .und, .und, .und, .und, .und, .und, .und, .und, .und, .und, .und, .und, .und, .und, .und, .und, .und, .und, .und, .und, .und, .und, .und, .und, .und, .und, .und, .und, .und, .und, .und, .und, .und, .und, .und, .und, .und, .und, .und, .und, .und, .und, .und, .und, .und, .und, .und, .und, .und, .und, .und, .und, .und, .und, .und, .und, .und] [.cells [.str nm, .ext 18 l.length g]] := by
            intro d
            induction d with
            | zero =>
              intro k hk hk0 ⟨i, hi, hi2, _⟩
              exfalso; omega
            | succ d ih =>
              intro k hk hk0 hex
              have hlt : k < l.length := by omega
              obtain ⟨j, rfl⟩ : ∃ j, k = j + 1 := ⟨k - 1, by omega⟩
              have e1 : IntKind.i64.wrap (((j + 1 : Nat) : Int) - 1) = (j : Int) := by rw [wi64_id (by omega) (by omega)]; omega
              have e2 : IntKind.i64.wrap (((j + 1 : Nat) : Int) + 1) = ((j + 1 + 1 : Nat) : Int) := by rw [wi64_id (by omega) (by omega)]; omega
              have g1 : g (Int.toNat (j : Int)) = cSt l[j] := by rw [Int.toNat_natCast]; exact hE j (by omega)
              have g2 : g (Int.toNat ((j + 1 : Nat) : Int)) = cSt l[j + 1] := by rw [Int.toNat_natCast]; exact hE (j + 1) hlt
              have hc := DCmp_ret l[j].fr l[j + 1].fr
              rw [cmpD_ok (h3 j (by omega)).1 (h3 (j + 1) hlt).1] at hc
              by_cases hj : l[j].fr.val < l[j + 1].fr.val
              · have hlt2 := cmpZ_lt0.2 hj
                apply is
                conv => whnf
                (conv => whnf) <;> repeat' (first | (rw [e1]; conv => whnf) | (rw [g1]; conv => whnf) | (rw [g2]; conv => whnf) | ((first | refine wN ?_ | refine wNc ?_ | refine wA ?_ | refine wB ?_ | refine wC ?_ | refine wD ?_ | refine Called.mk _ _ (hc) ?_ | refine vA ?_ | refine vB ?_ | refine vC ?_ | refine vD ?_ | refine uA ?_ | refine uB ?_ | refine uC ?_ | refine uD ?_); conv => whnf) | ((first | apply Pick.dec | apply Pick.beq | apply Cond.dec | apply Cond.beq | apply Cond.nd | apply Pick.nd | apply Pick.mk | apply Cond.mk) <;> intro h <;> conv => whnf))
                rw [e2]
                apply iw [0] [false, true, true, false, false, false, false, false, true] _ _ (by decide)
                refine ih (j + 1 + 1) (by omega) (by omega) ?_
                obtain ⟨i, i1, i2, i3⟩ := hex
                rcases Nat.lt_or_eq_of_le i1 with h | h
                · exact ⟨i, by omega, i2, i3⟩
                · have : j = i := by omega
                  subst this
                  exact absurd hj i3
              · have hge2 : ¬ cmpZ l[j].fr.val l[j + 1].fr.val < 0 := fun h => hj (cmpZ_lt0.1 h)
                apply is
                conv => whnf
                (conv => whnf) <;> repeat' (first | (rw [e1]; conv => whnf) | (rw [g1]; conv => whnf) | (rw [g2]; conv => whnf) | ((first | refine wN ?_ | refine wNc ?_ | refine wA ?_ | refine wB ?_ | refine wC ?_ | refine wD ?_ | refine Called.mk _ _ (hc) ?_ | refine vA ?_ | refine vB ?_ | refine vC ?_ | refine vD ?_ | refine uA ?_ | refine uB ?_ | refine uC ?_ | refine uD ?_); conv => whnf) | ((first | apply Pick.dec | apply Pick.beq | apply Cond.dec | apply Cond.beq | apply Cond.nd | apply Pick.nd | apply Pick.mk | apply Cond.mk) <;> intro h <;> conv => whnf))
                exact End.mk (int_eq hv.symm) rfl
          apply iw [0] [false, true, true, false, false, false, false, false, true] _ _ (by decide)
          exact key2 (l.length - 1) 1 (by omega) (by omega) ex
      | succ d ih =>
        intro k hk
        have hlt : k < l.length := by omega
        have g1 : g (Int.toNat (k : Int)) = cSt l[k] := by rw [Int.toNat_natCast]; exact hE k (by omega)
        have e2 : IntKind.i64.wrap ((k : Int) + 1) = ((k + 1 : Nat) : Int) := by rw [wi64_id (by omega) (by omega)]; omega
        obtain ⟨o1, o2, o3⟩ := h3 k hlt
        have c1 := Check_ret l[k].fr; have c2 := Check_ret l[k].base; have c3 := Check_ret l[k].rate
        rw [check_ok o1] at c1; rw [check_ok o2] at c2; rw [check_ok o3] at c3
        apply js
        conv => whnf
        (conv => whnf) <;> repeat' (first | (intro I hw hs; apply hs; conv => whnf) | (apply hs; conv => whnf) | (rw [g1]; conv => whnf) | ((first | refine wN ?_ | refine wNc ?_ | refine wA ?_ | refine wB ?_ | refine wC ?_ | refine wD ?_ | refine Called.mk _ _ (c1) ?_ | refine Called.mk _ _ (c2) ?_ | refine Called.mk _ _ (c3) ?_ | refine vA ?_ | refine vB ?_ | refine vC ?_ | refine vD ?_ | refine uA ?_ | refine uB ?_ | refine uC ?_ | refine uD ?_); conv => whnf) | ((first | apply Pick.dec | apply Pick.beq | apply Cond.dec | apply Cond.beq | apply Cond.nd | apply Pick.nd | apply Pick.mk | apply Cond.mk) <;> intro h <;> conv => whnf))
        rw [e2]
        apply jw [0] [false, true, true, false, false, false, false, false, false, false, false, false, false, false, false, false, false, false, false, false, true, true, true] _ _ (by decide)
        exact ih (k + 1) (by omega)
    apply jw [0] [false, true, true, false, false, false, false, false, false, false, false, false, false, false, false, false, false, false, false, false, true, true, true] _ _ (by decide)
    exact key l.length 0 (by omega)
  · have ex : ∃ i, 0 ≤ i ∧ ∃ h : i < l.length, ¬ l[i].ok := by obtain ⟨i, h⟩ := allOk_not h3; exact ⟨i, by omega, h⟩
    have hv : checkT l = 20 := by unfold checkT; rw [if_neg h1, if_neg h2, if_pos h3]
    refine ret_of_body atNone tok mixed Tryz.func155 (by kernel_rfl) rfl (k := 67) (rs := [.tmp 2]) (by kernel_rfl) (by kernel_rfl) ?_
    (conv => whnf) <;> repeat' (first | ((first | refine wN ?_ | refine wNc ?_ | refine wA ?_ | refine wB ?_ | refine wC ?_ | refine wD ?_ | refine vA ?_ | refine vB ?_ | refine vC ?_ | refine vD ?_ | refine uA ?_ | refine uB ?_ | refine uC ?_ | refine uD ?_); conv => whnf) | ((first | apply Pick.dec | apply Pick.beq | apply Cond.dec | apply Cond.beq | apply Cond.nd | apply Pick.nd | apply Pick.mk | apply Cond.mk) <;> intro h <;> conv => whnf))
    intro J jw js
    have key : ∀ (d k : Nat), k + d = l.length → (∃ i, k ≤ i ∧ ∃ h : i < l.length, ¬ l[i].ok) → J [.und, .ptr 0 0, .int .i64 0, .und, .und, .und, .und, .und, .und, .und, .und, .und, .und, .und, .und, .und, .und, .und, .und, .und, .ext 18 l.length g, .int .i64 (l.length : Int), .int .i64 (k : Int), .und, .und, .und, .und, .und, .und, .und, .und, .und, .und, .und, .und, .und, .und, .und, .und, .und, .und, .und, .und, .und, .und, .und, .und, .und, .und, .und, .und, .und, .und, .und, .und, .und, .und, .und, .und, .und, .und, .und, .und, .und, .und, .und, .und] [.cells [.str nm, .ext 18 l.length g]] := by
      intro d
      induction d with
      | zero =>
        intro k hk ⟨i, hi, hi2, _⟩
        exfalso; omega
      | succ d ih =>
        intro k hk hex
        have hlt : k < l.length := by omega
        have g1 : g (Int.toNat (k : Int)) = cSt l[k] := by rw [Int.toNat_natCast]; exact hE k (by omega)
        have e2 : IntKind.i64.wrap ((k : Int) + 1) = ((k + 1 : Nat) : Int) := by rw [wi64_id (by omega) (by omega)]; omega
        have c1 := Check_ret l[k].fr; have c2 := Check_ret l[k].base; have c3 := Check_ret l[k].rate
        by_cases hok : l[k].ok
        · obtain ⟨o1, o2, o3⟩ := id hok
          rw [check_ok o1] at c1; rw [check_ok o2] at c2; rw [check_ok o3] at c3
          apply js
          conv => whnf
          (conv => whnf) <;> repeat' (first | (intro I hw hs; apply hs; conv => whnf) | (apply hs; conv => whnf) | (rw [g1]; conv => whnf) | ((first | refine wN ?_ | refine wNc ?_ | refine wA ?_ | refine wB ?_ | refine wC ?_ | refine wD ?_ | refine Called.mk _ _ (c1) ?_ | refine Called.mk _ _ (c2) ?_ | refine Called.mk _ _ (c3) ?_ | refine vA ?_ | refine vB ?_ | refine vC ?_ | refine vD ?_ | refine uA ?_ | refine uB ?_ | refine uC ?_ | refine uD ?_); conv => whnf) | ((first | apply Pick.dec | apply Pick.beq | apply Cond.dec | apply Cond.beq | apply Cond.nd | apply Pick.nd | apply Pick.mk | apply Cond.mk) <;> intro h <;> conv => whnf))
          rw [e2]
          apply jw [0] [false, true, true, false, false, false, false, false, false, false, false, false, false, false, false, false, false, false, false, false, true, true, true] _ _ (by decide)
          refine ih (k + 1) (by omega) ?_
          obtain ⟨i, i1, i2, i3⟩ := hex
          rcases Nat.lt_or_eq_of_le i1 with h | h
          · exact ⟨i, by omega, i2, i3⟩
          · subst h
            exact absurd hok i3
        · rcases stp_bad hok with o1 | ⟨o1, o2⟩ | ⟨o1, o2, o3⟩
          · rw [check_bad o1] at c1
            apply js
            conv => whnf
            (conv => whnf) <;> repeat' (first | (intro I hw hs; apply hs; conv => whnf) | (apply hs; conv => whnf) | (rw [g1]; conv => whnf) | ((first | refine wN ?_ | refine wNc ?_ | refine wA ?_ | refine wB ?_ | refine wC ?_ | refine wD ?_ | refine Called.mk _ _ (c1) ?_ | refine Called.mk _ _ (c2) ?_ | refine Called.mk _ _ (c3) ?_ | refine vA ?_ | refine vB ?_ | refine vC ?_ | refine vD ?_ | refine uA ?_ | refine uB ?_ | refine uC ?_ | refine uD ?_); conv => whnf) | ((first | apply Pick.dec | apply Pick.beq | apply Cond.dec | apply Cond.beq | apply Cond.nd | apply Pick.nd | apply Pick.mk | apply Cond.mk) <;> intro h <;> conv => whnf))
            exact End.mk (int_eq hv.symm) rfl
          · rw [check_ok o1] at c1; rw [check_bad o2] at c2
            apply js
            conv => whnf
            (conv => whnf) <;> repeat' (first | (intro I hw hs; apply hs; conv => whnf) | (apply hs; conv => whnf) | (rw [g1]; conv => whnf) | ((first | refine wN ?_ | refine wNc ?_ | refine wA ?_ | refine wB ?_ | refine wC ?_ | refine wD ?_ | refine Called.mk _ _ (c1) ?_ | refine Called.mk _ _ (c2) ?_ | refine Called.mk _ _ (c3) ?_ | refine vA ?_ | refine vB ?_ | refine vC ?_ | refine vD ?_ | refine uA ?_ | refine uB ?_ | refine uC ?_ | refine uD ?_); conv => whnf) | ((first | apply Pick.dec | apply Pick.beq | apply Cond.dec | apply Cond.beq | apply Cond.nd | apply Pick.nd | apply Pick.mk | apply Cond.mk) <;> intro h <;> conv => whnf))
            exact End.mk (int_eq hv.symm) rfl
          · rw [check_ok o1] at c1; rw [check_ok o2] at c2; rw [check_bad o3] at c3
            apply js
            conv => whnf
            (conv => whnf) <;> repeat' (first | (intro I hw hs; apply hs; conv => whnf) | (apply hs; conv => whnf) | (rw [g1]; conv => whnf) | ((first | refine wN ?_ | refine wNc ?_ | refine wA ?_ | refine wB ?_ | refine wC ?_ | refine wD ?_ | refine Called.mk _ _ (c1) ?_ | refine Called.mk _ _ (c2) ?_ | refine Called.mk _ _ (c3) ?_ | refine vA ?_ | refine vB ?_ | refine vC ?_ | refine vD ?_ | refine uA ?_ | refine uB ?_ | refine uC ?_ | refine uD ?_); conv => whnf) | ((first | apply Pick.dec | apply Pick.beq | apply Cond.dec | apply Cond.beq | apply Cond.nd | apply Pick.nd | apply Pick.mk | apply Cond.mk) <;> intro h <;> conv => whnf))
            exact End.mk (int_eq hv.symm) rfl
    apply jw [0] [false, true, true, false, false, false, false, false, false, false, false, false, false, false, false, false, false, false, false, false, true, true, true] _ _ (by decide)
    exact key l.length 0 (by omega) ex
end Go.Proofs.YtlbocjcponegcaaGreat

set_option linter.unusedVariables false
set_option linter.unusedSimpArgs false
set_option maxRecDepth 100000
namespace Go.Proofs.YtlbocjcponegcaaGreat
open Go.AM
set_option maxHeartbeats 4000000 in
theorem bStep_ret (nm : ByteArray) (n : Nat) (g : Nat → List Val) (l : List Stp) (x : D) (hE : ExtL cSt n g l) : Ret Tryz.prog 121 [.agg [.str nm, .ext 18 n g], eD x] [] (.tup [.int .i64 (findT l x).1, .int .i64 (findT l x).2]) [] := by
  have hT := bCheck_ret nm n g l hE
  obtain ⟨rfl, hE⟩ := hE
  by_cases hc0 : checkT l = 0
  · rw [hc0] at hT
    have hX := Check_ret x
    by_cases hx : x.ok
    · rw [check_ok hx] at hX
      obtain ⟨h1, h2, h3, h4⟩ := checkT_0 hc0
      obtain ⟨p1, p2⟩ := place_spec (x := x) h4
      refine ret_of_body atNone tok mixed Tryz.func121 (by kernel_rfl) rfl (k := 47) (rs := [.tmp 4, .tmp 5]) (by kernel_rfl) (by kernel_rfl) ?_
      (conv => whnf) <;> repeat' (first | ((first | refine wN ?_ | refine wNc ?_ | refine wA ?_ | refine wB ?_ | refine wC ?_ | refine wD ?_ | refine Called.mk _ _ (hT) ?_ | refine Called.mk _ _ (hX) ?_ | refine vA ?_ | refine vB ?_ | refine vC ?_ | refine vD ?_ | refine uA ?_ | refine uB ?_ | refine uC ?_ | refine uD ?_); conv => whnf) | ((first | apply Pick.dec | apply Pick.beq | apply Cond.dec | apply Cond.beq | apply Cond.nd | apply Pick.nd | apply Pick.mk | apply Cond.mk) <;> intro h <;> conv => whnf))
      intro J jw js
      have turn : ∀ (lo hi : Nat), hi ≤ l.length → (∀ i, (h : i < l.length) → i < lo → l[i].fr.val ≤ x.val) → (∀ i, (h : i < l.length) → hi ≤ i → ¬ l[i].fr.val ≤ x.val) → lo ≤ hi →
          J 0 [.und, .und, .ptr 0 0, .ptr 1 0, .int .i64 0, .int .i64 0, .und, .und, .int .i64 (lo : Int), .int .i64 (hi : Int), .und, .und, .und, .und, .und, .und, .und, .und, .und, .und, .und, .und, .und, .und, .und, .und, .und, .und, .und, .und, .und, .und, .und, .und, .und, .und, .und, .und, .und, .und, .und, .und, .und, .und, .und, .und, .und] [.cells [.str nm, .ext 18 l.length g], .cells (cD x)] := by
        intro lo hi
        induction hd : hi - lo using Nat.strongRecOn generalizing lo hi with
        | ind d ih =>
          intro hhi hlo1 hhi1 hle
          apply js
          conv => whnf
          by_cases hlt : lo < hi
          · refine Cond.tt (decT (by omega)) ?_
            have em1 : IntKind.i64.wrap ((lo : Int) + (hi : Int)) = ((lo + hi : Nat) : Int) := by rw [wi64_id (by omega) (by omega)]; omega
            have em2 : IntKind.i64.wrap (((lo + hi : Nat) : Int).tdiv 2) = (((lo + hi) / 2 : Nat) : Int) := by rw [Int.tdiv_eq_ediv_of_nonneg (by omega), wi64_id (by omega) (by omega)]; omega
            have hm : (lo + hi) / 2 < l.length := by omega
            have gm : g (Int.toNat (((lo + hi) / 2 : Nat) : Int)) = cSt l[(lo + hi) / 2] := by rw [Int.toNat_natCast]; exact hE _ hm
            have hc := DCmp_ret l[(lo + hi) / 2].fr x
            rw [cmpD_ok (h3 _ hm).1 hx] at hc
            have em3 : IntKind.i64.wrap ((((lo + hi) / 2 : Nat) : Int) + 1) = (((lo + hi) / 2 + 1 : Nat) : Int) := by rw [wi64_id (by omega) (by omega)]; omega
            by_cases hcmp : l[(lo + hi) / 2].fr.val ≤ x.val
            · have hcz := cmpZ_le0.2 hcmp
              (conv => whnf) <;> repeat' (first | (rw [em1]; conv => whnf) | (rw [em2]; conv => whnf) | (rw [gm]; conv => whnf) | ((first | refine wN ?_ | refine wNc ?_ | refine wA ?_ | refine wB ?_ | refine wC ?_ | refine wD ?_ | refine Called.mk _ _ (hc) ?_ | refine vA ?_ | refine vB ?_ | refine vC ?_ | refine vD ?_ | refine uA ?_ | refine uB ?_ | refine uC ?_ | refine uD ?_); conv => whnf) | ((first | apply Pick.dec | apply Pick.beq | apply Cond.dec | apply Cond.beq | apply Cond.nd | apply Pick.nd | apply Pick.mk | apply Cond.mk) <;> intro h <;> conv => whnf))
              rw [em3]
              apply jw 0 [0, 1] [false, false, true, true, true, true, false, false, true, true] _ _ (by decide)
              refine ih (hi - ((lo + hi) / 2 + 1)) (by omega) _ hi rfl hhi (fun i hi' hlt' => ?_) hhi1 (by omega)
              exact Int.le_trans (h4.mono (by omega : i ≤ (lo + hi) / 2) hm) hcmp
            · have hcz : ¬ cmpZ l[(lo + hi) / 2].fr.val x.val ≤ 0 := fun h => hcmp (cmpZ_le0.1 h)
              (conv => whnf) <;> repeat' (first | (rw [em1]; conv => whnf) | (rw [em2]; conv => whnf) | (rw [gm]; conv => whnf) | ((first | refine wN ?_ | refine wNc ?_ | refine wA ?_ | refine wB ?_ | refine wC ?_ | refine wD ?_ | refine Called.mk _ _ (hc) ?_ | refine vA ?_ | refine vB ?_ | refine vC ?_ | refine vD ?_ | refine uA ?_ | refine uB ?_ | refine uC ?_ | refine uD ?_); conv => whnf) | ((first | apply Pick.dec | apply Pick.beq | apply Cond.dec | apply Cond.beq | apply Cond.nd | apply Pick.nd | apply Pick.mk | apply Cond.mk) <;> intro h <;> conv => whnf))
              apply jw 0 [0, 1] [false, false, true, true, true, true, false, false, true, true] _ _ (by decide)
              refine ih ((lo + hi) / 2 - lo) (by omega) lo _ rfl (by omega) hlo1 (fun i hi' hge' => ?_) (by omega)
              intro hcon
              exact hcmp (Int.le_trans (h4.mono hge' hi') hcon)
          · refine Cond.ff (decF (by omega)) ?_
            have : lo = hi := by omega
            subst this
            have hp : placeT l x = lo := place_is h4 hhi hlo1 hhi1
            have hs : findT l x = if lo = 0 then (0, 141) else ((lo : Int) - 1, 0) := by unfold findT; rw [if_neg (by omega), if_neg (by simpa using hx), hp]
            rw [hs]
            by_cases hz : lo = 0
            · rw [if_pos hz]
              (conv => whnf) <;> repeat' (first | ((first | refine wN ?_ | refine wNc ?_ | refine wA ?_ | refine wB ?_ | refine wC ?_ | refine wD ?_ | refine vA ?_ | refine vB ?_ | refine vC ?_ | refine vD ?_ | refine uA ?_ | refine uB ?_ | refine uC ?_ | refine uD ?_); conv => whnf) | ((first | apply Pick.dec | apply Pick.beq | apply Cond.dec | apply Cond.beq | apply Cond.nd | apply Pick.nd | apply Pick.mk | apply Cond.mk) <;> intro h <;> conv => whnf))
              exact End.mk rfl rfl
            · rw [if_neg hz]
              have e : IntKind.i64.wrap ((lo : Int) - 1) = (lo : Int) - 1 := wi64_id (by omega) (by omega)
              (conv => whnf) <;> repeat' (first | (rw [e]; conv => whnf) | ((first | refine wN ?_ | refine wNc ?_ | refine wA ?_ | refine wB ?_ | refine wC ?_ | refine wD ?_ | refine vA ?_ | refine vB ?_ | refine vC ?_ | refine vD ?_ | refine uA ?_ | refine uB ?_ | refine uC ?_ | refine uD ?_); conv => whnf) | ((first | apply Pick.dec | apply Pick.beq | apply Cond.dec | apply Cond.beq | apply Cond.nd | apply Pick.nd | apply Pick.mk | apply Cond.mk) <;> intro h <;> conv => whnf))
              exact End.mk rfl rfl
      have em1 : IntKind.i64.wrap (0 + (l.length : Int)) = (l.length : Int) := by rw [Int.zero_add, wi64_id (by omega) (by omega)]
      have em2 : IntKind.i64.wrap ((l.length : Int).tdiv 2) = ((l.length / 2 : Nat) : Int) := by rw [Int.tdiv_eq_ediv_of_nonneg (by omega), wi64_id (by omega) (by omega)]; omega
      have hm : l.length / 2 < l.length := by omega
      have gm : g (Int.toNat ((l.length / 2 : Nat) : Int)) = cSt l[l.length / 2] := by rw [Int.toNat_natCast]; exact hE _ hm
      have hc := DCmp_ret l[l.length / 2].fr x
      rw [cmpD_ok (h3 _ hm).1 hx] at hc
      have em3 : IntKind.i64.wrap (((l.length / 2 : Nat) : Int) + 1) = ((l.length / 2 + 1 : Nat) : Int) := by rw [wi64_id (by omega) (by omega)]; omega
      by_cases hcmp : l[l.length / 2].fr.val ≤ x.val
      · have hcz := cmpZ_le0.2 hcmp
        (conv => whnf) <;> repeat' (first | (rw [em1]; conv => whnf) | (rw [em2]; conv => whnf) | (rw [gm]; conv => whnf) | ((first | refine wN ?_ | refine wNc ?_ | refine wA ?_ | refine wB ?_ | refine wC ?_ | refine wD ?_ | refine Called.mk _ _ (hT) ?_ | refine Called.mk _ _ (hX) ?_ | refine Called.mk _ _ (hc) ?_ | refine vA ?_ | refine vB ?_ | refine vC ?_ | refine vD ?_ | refine uA ?_ | refine uB ?_ | refine uC ?_ | refine uD ?_); conv => whnf) | ((first | apply Pick.dec | apply Pick.beq | apply Cond.dec | apply Cond.beq | apply Cond.nd | apply Pick.nd | apply Pick.mk | apply Cond.mk) <;> intro h <;> conv => whnf))
        rw [em3]
        apply jw 0 [0, 1] [false, false, true, true, true, true, false, false, true, true] _ _ (by decide)
        refine turn _ _ (Nat.le_refl _) (fun i hi' hlt' => ?_) (fun i hi' hge' => absurd hi' (by omega)) (by omega)
        exact Int.le_trans (h4.mono (by omega : i ≤ l.length / 2) hm) hcmp
      · have hcz : ¬ cmpZ l[l.length / 2].fr.val x.val ≤ 0 := fun h => hcmp (cmpZ_le0.1 h)
        (conv => whnf) <;> repeat' (first | (rw [em1]; conv => whnf) | (rw [em2]; conv => whnf) | (rw [gm]; conv => whnf) | ((first | refine wN ?_ | refine wNc ?_ | refine wA ?_ | refine wB ?_ | refine wC ?_ | refine wD ?_ | refine Called.mk _ _ (hT) ?_ | refine Called.mk _ _ (hX) ?_ | refine Called.mk _ _ (hc) ?_ | refine vA ?_ | refine vB ?_ | refine vC ?_ | refine vD ?_ | refine uA ?_ | refine uB ?_ | refine uC ?_ | refine uD ?_); conv => whnf) | ((first | apply Pick.dec | apply Pick.beq | apply Cond.dec | apply Cond.beq | apply Cond.nd | apply Pick.nd | apply Pick.mk | apply Cond.mk) <;> intro h <;> conv => whnf))
        apply jw 0 [0, 1] [false, false, true, true, true, true, false, false, true, true] _ _ (by decide)
        refine turn 0 _ (by omega) (fun i hi' hlt' => absurd hlt' (by omega)) (fun i hi' hge' hcon => hcmp (Int.le_trans (h4.mono hge' hi') hcon)) (by omega)
    · rw [check_bad hx] at hX
      rw [show findT l x = (0, 20) from by unfold findT; rw [if_neg (by omega), if_pos hx]]
      refine ret_of_body atNone tok mixed Tryz.func121 (by kernel_rfl) rfl (k := 47) (rs := [.tmp 4, .tmp 5]) (by kernel_rfl) (by kernel_rfl) ?_
      (conv => whnf) <;> repeat' (first | ((first | refine wN ?_ | refine wNc ?_ | refine wA ?_ | refine wB ?_ | refine wC ?_ | refine wD ?_ | refine Called.mk _ _ (hT) ?_ | refine Called.mk _ _ (hX) ?_ | refine vA ?_ | refine vB ?_ | refine vC ?_ | refine vD ?_ | refine uA ?_ | refine uB ?_ | refine uC ?_ | refine uD ?_); conv => whnf) | ((first | apply Pick.dec | apply Pick.beq | apply Cond.dec | apply Cond.beq | apply Cond.nd | apply Pick.nd | apply Pick.mk | apply Cond.mk) <;> intro h <;> conv => whnf))
      intro J jw js
      (conv => whnf) <;> repeat' (first | ((first | refine wN ?_ | refine wNc ?_ | refine wA ?_ | refine wB ?_ | refine wC ?_ | refine wD ?_ | refine Called.mk _ _ (hT) ?_ | refine Called.mk _ _ (hX) ?_ | refine vA ?_ | refine vB ?_ | refine vC ?_ | refine vD ?_ | refine uA ?_ | refine uB ?_ | refine uC ?_ | refine uD ?_); conv => whnf) | ((first | apply Pick.dec | apply Pick.beq | apply Cond.dec | apply Cond.beq | apply Cond.nd | apply Pick.nd | apply Pick.mk | apply Cond.mk) <;> intro h <;> conv => whnf))
      exact End.mk rfl rfl
  · rw [show findT l x = (0, checkT l) from by unfold findT; rw [if_pos hc0]]
    refine ret_of_body atNone tok mixed Tryz.func121 (by kernel_rfl) rfl (k := 47) (rs := [.tmp 4, .tmp 5]) (by kernel_rfl) (by kernel_rfl) ?_
    (conv => whnf) <;> repeat' (first | ((first | refine wN ?_ | refine wNc ?_ | refine wA ?_ | refine wB ?_ | refine wC ?_ | refine wD ?_ | refine Called.mk _ _ (hT) ?_ | refine vA ?_ | refine vB ?_ | refine vC ?_ | refine vD ?_ | refine uA ?_ | refine uB ?_ | refine uC ?_ | refine uD ?_); conv => whnf) | ((first | apply Pick.dec | apply Pick.beq | apply Cond.dec | apply Cond.beq | apply Cond.nd | apply Pick.nd | apply Pick.mk | apply Cond.mk) <;> intro h <;> conv => whnf))
    intro J jw js
    (conv => whnf) <;> repeat' (first | ((first | refine wN ?_ | refine wNc ?_ | refine wA ?_ | refine wB ?_ | refine wC ?_ | refine wD ?_ | refine Called.mk _ _ (hT) ?_ | refine vA ?_ | refine vB ?_ | refine vC ?_ | refine vD ?_ | refine uA ?_ | refine uB ?_ | refine uC ?_ | refine uD ?_); conv => whnf) | ((first | apply Pick.dec | apply Pick.beq | apply Cond.dec | apply Cond.beq | apply Cond.nd | apply Pick.nd | apply Pick.mk | apply Cond.mk) <;> intro h <;> conv => whnf))
    exact End.mk rfl rfl
theorem bSays_ret (s : Stp) (x : D) (hs : s.ok) (hx : x.ok) : Ret Tryz.prog 122 [.agg (cSt s), eD x] [] (.tup [eD (saysD s x).1, .int .i64 (saysD s x).2]) [] := by
  have h1 := dSub_ret x s.fr
  rcases subD_ok hx hs.1 with k | ⟨k, dok, _, _⟩
  · rw [show saysD s x = (D0, 7) from by unfold saysD; rw [if_pos (by omega), k]]
    rw [k] at h1
    refine ret_of_body atNone tok mixed Tryz.func122 (by kernel_rfl) rfl (k := 44) (rs := [.cell 4 26, .tmp 5]) (by kernel_rfl) (by kernel_rfl) ?_
    (conv => whnf) <;> repeat' (first | ((first | refine wN ?_ | refine wNc ?_ | refine wA ?_ | refine wB ?_ | refine wC ?_ | refine wD ?_ | refine Called.mk _ _ (h1) ?_ | refine vA ?_ | refine vB ?_ | refine vC ?_ | refine vD ?_ | refine uA ?_ | refine uB ?_ | refine uC ?_ | refine uD ?_); conv => whnf) | ((first | apply Pick.dec | apply Pick.beq | apply Cond.dec | apply Cond.beq | apply Cond.nd | apply Pick.nd | apply Pick.mk | apply Cond.mk) <;> intro h <;> conv => whnf))
    exact End.mk rfl rfl
  · have es : saysD s x = _ := if_neg (by omega)
    rw [es]
    clear es
    rw [k] at h1
    generalize (subD x s.fr).1 = d at *
    obtain ⟨d1, d2, _⟩ := dok
    obtain ⟨r1, r2, _⟩ := hs.2.2
    have ew : IntKind.i64.wrap (d.scale + s.rate.scale) = d.scale + s.rate.scale := wi64_id (by omega) (by omega)
    have h2 := dMulTo_ret d s.rate (min 18 (d.scale + s.rate.scale)) 2
    by_cases k2 : (mulToD d s.rate (min 18 (d.scale + s.rate.scale)) 2).2 = 0
    · rw [if_neg (by omega)]
      rw [k2] at h2
      refine ret_of_body atNone tok mixed Tryz.func122 (by kernel_rfl) rfl (k := 44) (rs := [.cell 4 26, .tmp 5]) (by kernel_rfl) (by kernel_rfl) ?_
      (conv => whnf) <;> repeat' (first | (rw [ew, pick_min]; conv => whnf) | ((first | refine wN ?_ | refine wNc ?_ | refine wA ?_ | refine wB ?_ | refine wC ?_ | refine wD ?_ | refine Called.mk _ _ (h1) ?_ | refine Called.mk _ _ (h2) ?_ | refine Called.mk _ _ (dAdd_ret (mulToD d s.rate (min 18 (d.scale + s.rate.scale)) 2).1 s.base) ?_ | refine vA ?_ | refine vB ?_ | refine vC ?_ | refine vD ?_ | refine uA ?_ | refine uB ?_ | refine uC ?_ | refine uD ?_); conv => whnf) | ((first | apply Pick.dec | apply Pick.beq | apply Cond.dec | apply Cond.beq | apply Cond.nd | apply Pick.nd | apply Pick.mk | apply Cond.mk) <;> intro h <;> conv => whnf))
      exact End.mk rfl rfl
    · rw [if_pos (by omega)]
      refine ret_of_body atNone tok mixed Tryz.func122 (by kernel_rfl) rfl (k := 44) (rs := [.cell 4 26, .tmp 5]) (by kernel_rfl) (by kernel_rfl) ?_
      (conv => whnf) <;> repeat' (first | (rw [ew, pick_min]; conv => whnf) | ((first | refine wN ?_ | refine wNc ?_ | refine wA ?_ | refine wB ?_ | refine wC ?_ | refine wD ?_ | refine Called.mk _ _ (h1) ?_ | refine Called.mk _ _ (h2) ?_ | refine vA ?_ | refine vB ?_ | refine vC ?_ | refine vD ?_ | refine uA ?_ | refine uB ?_ | refine uC ?_ | refine uD ?_); conv => whnf) | ((first | apply Pick.dec | apply Pick.beq | apply Cond.dec | apply Cond.beq | apply Cond.nd | apply Pick.nd | apply Pick.mk | apply Cond.mk) <;> intro h <;> conv => whnf))
      exact End.mk rfl rfl
theorem bAt_ret (nm : ByteArray) (n : Nat) (g : Nat → List Val) (l : List Stp) (x : D) (hE : ExtL cSt n g l) : Ret Tryz.prog 84 [.agg [.str nm, .ext 18 n g], eD x] [] (.tup [eD (atT l x).1, .int .i64 (atT l x).2]) [] := by
  have hT := bStep_ret nm n g l x hE
  obtain ⟨rfl, hE⟩ := hE
  by_cases h0 : (findT l x).2 = 0
  · obtain ⟨hok, hx, i, hi, hf, _, _⟩ := findT_0 h0
    have ea : atT l x = saysD l[i] x := by unfold atT; rw [if_neg (by omega), hf, Int.toNat_natCast, List.getElem?_eq_getElem hi]
    rw [ea]
    have gm : g (Int.toNat (i : Int)) = cSt l[i] := by rw [Int.toNat_natCast]; exact hE _ hi
    rw [hf] at hT
    have hs := bSays_ret l[i] x (hok i hi) hx
    refine ret_of_body atNone tok mixed Tryz.func84 (by kernel_rfl) rfl (k := 27) (rs := [.cell 4 26, .tmp 5]) (by kernel_rfl) (by kernel_rfl) ?_
    (conv => whnf) <;> repeat' (first | (rw [gm]; conv => whnf) | ((first | refine wN ?_ | refine wNc ?_ | refine wA ?_ | refine wB ?_ | refine wC ?_ | refine wD ?_ | refine Called.mk _ _ (hT) ?_ | refine Called.mk _ _ (hs) ?_ | refine vA ?_ | refine vB ?_ | refine vC ?_ | refine vD ?_ | refine uA ?_ | refine uB ?_ | refine uC ?_ | refine uD ?_); conv => whnf) | ((first | apply Pick.dec | apply Pick.beq | apply Cond.dec | apply Cond.beq | apply Cond.nd | apply Pick.nd | apply Pick.mk | apply Cond.mk) <;> intro h <;> conv => whnf))
    exact End.mk rfl rfl
  · rw [show atT l x = (D0, (findT l x).2) from if_pos h0]
    refine ret_of_body atNone tok mixed Tryz.func84 (by kernel_rfl) rfl (k := 27) (rs := [.cell 4 26, .tmp 5]) (by kernel_rfl) (by kernel_rfl) ?_
    (conv => whnf) <;> repeat' (first | ((first | refine wN ?_ | refine wNc ?_ | refine wA ?_ | refine wB ?_ | refine wC ?_ | refine wD ?_ | refine Called.mk _ _ (hT) ?_ | refine vA ?_ | refine vB ?_ | refine vC ?_ | refine vD ?_ | refine uA ?_ | refine uB ?_ | refine uC ?_ | refine uD ?_); conv => whnf) | ((first | apply Pick.dec | apply Pick.beq | apply Cond.dec | apply Cond.beq | apply Cond.nd | apply Pick.nd | apply Pick.mk | apply Cond.mk) <;> intro h <;> conv => whnf))
    exact End.mk rfl rfl
end Go.Proofs.YtlbocjcponegcaaGreat

