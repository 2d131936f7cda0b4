/- TypesLines, as a contract. -/
import Derived.Test.YtkglccolonpnlaaAmIb
import Derived.Test.YtkglccolonpnlaaAmT3
set_option linter.unusedVariables false
set_option linter.unusedSimpArgs false
set_option maxRecDepth 100000
namespace Go.Proofs.Ytkglccolonpnlaa
open Go.AM
set_option maxHeartbeats 16000000 in
theorem typesLines_ret (d : Df) (hd : d.Ok) (ht : ∀ t ∈ d.tabs, t.steps.length ≤ maxLen) : Ret Try.prog 6 [eDf d] [] (.bool true) [] := by
  have hm : maxLen ≤ 9223372036854775807 := by decide
  have hC := Check_ret' d hd ht
  have h0 := checkC_0 (d := d)
  have h5 := checkC_5 d
  generalize checkC d = c at *
  obtain ⟨pl, ce⟩ := c
  simp only at hC h0 h5
  obtain ⟨pa, pb, pc, pe, pf, rfl⟩ := h5
  have hpl : plV [pa, pb, pc, pe, pf] = pl5 pa pb pc pe pf := rfl
  rw [hpl] at hC
  by_cases hce : ce = 0
  · obtain ⟨hit, hpg⟩ := h0 hce
    subst hce
    clear h0
    have hF := rFlat_ret d hd
    have hlp := hd.pages
    have hlf := d.flat_len
    have hok := hd.flat
    refine ret_of_body atCalls tok mixed Try.func6 (by kernel_rfl) rfl (k := 106) (rs := [.tmp 2]) (by kernel_rfl) (by kernel_rfl) ?_
    (conv => whnf) <;> repeat' (first | ((first | refine wN ?_ | refine wA ?_ | refine wB ?_ | refine wC ?_ | refine wD ?_ | refine Called.mk _ _ (hC) ?_ | refine Called.mk _ _ (begun10) ?_ | refine Called.mk _ _ (hF) ?_ | refine vA ?_ | refine vB ?_ | refine vC ?_ | refine vD ?_ | refine uA ?_ | refine uB ?_ | refine uC ?_ | refine uD ?_); conv => whnf) | ((first | apply Pick.dec | apply Pick.beq | apply Cond.dec | apply Cond.beq | apply Cond.nd | apply Pick.nd | apply Pick.mk | apply Cond.mk) <;> intro h <;> conv => whnf))
    intro J jw js
    have sect : ∀ (e j : Nat), j + e = d.flat.length →
        J [.und, .ptr 0 0, .und, .und, .und, .und, .und, .und, .und, .und, .und, .und, .und, .und, .und, .und, .und, .und, .und, .und, .und, .und, .und, .und, .und, .und, .und, .und, eL 5 cSe d.flat, .int .i64 (d.flat.length : Int), .int .i64 (j : Int), .und, .und, .und, .und, .und, .und, .und, .und, .und, .und, .und, .und, .und, .und, .und, .und, .und, .und, .und, .und, .und, .und, .und, .und, .und, .und, .und, .und, .und, .und, .und, .und, .und, .und, .und, .und, .und, .und, .und, .und, .und, .und, .und, .und, .und, .und, .und, .und, .und, .und, .und, .und, .und, .und, .und, .und, .und, .und, .und, .und, .und, .und, .und, .und, .und, .und, .und, .und, .und, .und, .und, .und, .und, .und, .und] [boxD d] := by
      intro e
      induction e with
      | succ e im =>
        intro j hj
        have hjl : j < d.flat.length := by omega
        have gk : getL cSe d.flat (Int.toNat (j : Int)) = cSe d.flat[j] := by rw [Int.toNat_natCast]; exact getL_at (List.getElem?_eq_getElem hjl)
        have e1 : IntKind.i64.wrap ((j : Int) + 1) = ((j + 1 : Nat) : Int) := by rw [wi64_id (by omega) (by omega)]; omega
        have hx := hok _ (List.getElem_mem hjl)
        have hI := hit j d.flat[j] (List.getElem?_eq_getElem hjl)
        have im := im (j + 1) (by omega)
        generalize d.flat[j] = x at *
        obtain ⟨hx1, hx2⟩ := hx
        apply js
        conv => whnf
        refine Cond.tt (decT (by omega)) ?_
        (conv => whnf) <;> repeat' (first | ((conv => arg 1; whnf); rw [gk]; conv => whnf) | (rw [gk]; conv => whnf) | ((first | refine wN ?_ | refine wA ?_ | refine wB ?_ | refine wC ?_ | refine wD ?_ | refine vA ?_ | refine vB ?_ | refine vC ?_ | refine vD ?_ | refine uA ?_ | refine uB ?_ | refine uC ?_ | refine uD ?_); conv => whnf) | ((first | apply Pick.dec | apply Pick.beq | apply Cond.dec | apply Cond.beq | apply Cond.nd | apply Pick.nd | apply Pick.mk | apply Cond.mk) <;> intro h <;> conv => whnf))
        intro K kw ks
        have mid : ∀ (f i : Nat), i + f = x.items.length →
            K [.und, .ptr 0 0, .und, .und, .und, .int .i64 (j : Int), .und, .und, .und, .und, .und, .und, .und, .und, .und, .und, .und, .und, .und, .und, .und, .und, .und, .und, .und, .und, .und, .und, eL 5 cSe d.flat, .int .i64 (d.flat.length : Int), .int .i64 (j : Int), .und, .und, .und, .und, .und, eL 23 cIt x.items, .int .i64 (x.items.length : Int), .int .i64 (i : Int), .und, .und, .und, .und, .und, .und, .und, .und, .und, .und, .und, .und, .und, .und, .und, .und, .und, .und, .und, .und, .und, .und, .und, .und, .und, .und, .und, .und, .und, .und, .und, .und, .und, .und, .und, .und, .und, .und, .und, .und, .und, .und, .und, .und, .und, .und, .und, .und, .und, .und, .und, .und, .und, .und, .und, .und, .und, .und, .und, .und, .und, .und, .und, .und, .und, .und, .und] [boxD d] := by
          intro f
          induction f with
          | zero =>
            intro i hi
            apply ks
            conv => whnf
            refine Cond.ff (decF (by omega)) ?_
            (conv => whnf) <;> repeat' (first | ((first | refine wN ?_ | refine wA ?_ | refine wB ?_ | refine wC ?_ | refine wD ?_ | refine vA ?_ | refine vB ?_ | refine vC ?_ | refine vD ?_ | refine uA ?_ | refine uB ?_ | refine uC ?_ | refine uD ?_); conv => whnf) | ((first | apply Pick.dec | apply Pick.beq | apply Cond.dec | apply Cond.beq | apply Cond.nd | apply Pick.nd | apply Pick.mk | apply Cond.mk) <;> intro h <;> conv => whnf))
            rw [e1]
            apply jw [0] [false, true, false, false, false, false, false, false, false, false, false, false, false, false, false, false, false, false, false, false, false, false, false, false, false, false, false, false, true, true, true] _ _ rfl
            exact im
          | succ f jm =>
            intro i hi
            have hil : i < x.items.length := by omega
            have gl : getL cIt x.items (Int.toNat (i : Int)) = cIt x.items[i] := by rw [Int.toNat_natCast]; exact getL_at (List.getElem?_eq_getElem hil)
            have e2 : IntKind.i64.wrap ((i : Int) + 1) = ((i + 1 : Nat) : Int) := by rw [wi64_id (by omega) (by omega)]; omega
            have hi1 := hx2 _ (List.getElem_mem hil)
            have hK := Kind_ret d hd (j : Int) (x.items[i]).expr hi1.wf hi1.lens
            have hI := hI _ (List.getElem_mem hil)
            have jm := jm (i + 1) (by omega)
            generalize x.items[i] = it at *
            generalize kindK d (j : Int) it.expr = q at *
            obtain ⟨q1, q2⟩ := q
            obtain ⟨hI2, hI3⟩ := hI
            simp only at hK
            by_cases k2 : it.kind = 2
            · have hq := hI2 k2
              injection hq with hq1 hq2
              subst hq1; subst hq2
              apply ks
              conv => whnf
              refine Cond.tt (decT (by omega)) ?_
              (conv => whnf) <;> repeat' (first | ((conv => arg 1; whnf); rw [gl]; conv => whnf) | (rw [gl]; conv => whnf) | ((first | refine wN ?_ | refine wA ?_ | refine wB ?_ | refine wC ?_ | refine wD ?_ | refine Called.mk _ _ (hK) ?_ | refine vA ?_ | refine vB ?_ | refine vC ?_ | refine vD ?_ | refine uA ?_ | refine uB ?_ | refine uC ?_ | refine uD ?_); conv => whnf) | ((first | apply Pick.dec | apply Pick.beq | apply Cond.dec | apply Cond.beq | apply Cond.nd | apply Pick.nd | apply Pick.mk | apply Cond.mk) <;> intro h <;> conv => whnf))
              rw [e2]
              apply kw [0] [false, true, false, false, false, true, false, false, false, false, false, false, false, false, false, false, false, false, false, false, false, false, false, false, false, false, false, false, true, true, true, false, false, false, false, false, true, true, true] _ _ rfl
              exact jm
            by_cases k3 : it.kind = 3
            · have hq := hI3 k3
              injection hq with hq1 hq2
              subst hq1; subst hq2
              apply ks
              conv => whnf
              refine Cond.tt (decT (by omega)) ?_
              (conv => whnf) <;> repeat' (first | ((conv => arg 1; whnf); rw [gl]; conv => whnf) | (rw [gl]; conv => whnf) | ((first | refine wN ?_ | refine wA ?_ | refine wB ?_ | refine wC ?_ | refine wD ?_ | refine Called.mk _ _ (hK) ?_ | refine vA ?_ | refine vB ?_ | refine vC ?_ | refine vD ?_ | refine uA ?_ | refine uB ?_ | refine uC ?_ | refine uD ?_); conv => whnf) | ((first | apply Pick.dec | apply Pick.beq | apply Cond.dec | apply Cond.beq | apply Cond.nd | apply Pick.nd | apply Pick.mk | apply Cond.mk) <;> intro h <;> conv => whnf))
              rw [e2]
              apply kw [0] [false, true, false, false, false, true, false, false, false, false, false, false, false, false, false, false, false, false, false, false, false, false, false, false, false, false, false, false, true, true, true, false, false, false, false, false, true, true, true] _ _ rfl
              exact jm
            · apply ks
              conv => whnf
              refine Cond.tt (decT (by omega)) ?_
              (conv => whnf) <;> repeat' (first | ((conv => arg 1; whnf); rw [gl]; conv => whnf) | (rw [gl]; conv => whnf) | ((first | refine wN ?_ | refine wA ?_ | refine wB ?_ | refine wC ?_ | refine wD ?_ | refine Called.mk _ _ (hK) ?_ | refine vA ?_ | refine vB ?_ | refine vC ?_ | refine vD ?_ | refine uA ?_ | refine uB ?_ | refine uC ?_ | refine uD ?_); conv => whnf) | ((first | apply Pick.dec | apply Pick.beq | apply Cond.dec | apply Cond.beq | apply Cond.nd | apply Pick.nd | apply Pick.mk | apply Cond.mk) <;> intro h <;> conv => whnf))
              rw [e2]
              apply kw [0] [false, true, false, false, false, true, false, false, false, false, false, false, false, false, false, false, false, false, false, false, false, false, false, false, false, false, false, false, true, true, true, false, false, false, false, false, true, true, true] _ _ rfl
              exact jm
        apply kw [0] [false, true, false, false, false, true, false, false, false, false, false, false, false, false, false, false, false, false, false, false, false, false, false, false, false, false, false, false, true, true, true, false, false, false, false, false, true, true, true] _ _ rfl
        exact mid x.items.length 0 (by omega)
      | zero =>
        intro j hj
        apply js
        conv => whnf
        refine Cond.ff (decF (by omega)) ?_
        (conv => whnf) <;> repeat' (first | ((first | refine wN ?_ | refine wA ?_ | refine wB ?_ | refine wC ?_ | refine wD ?_ | refine vA ?_ | refine vB ?_ | refine vC ?_ | refine vD ?_ | refine uA ?_ | refine uB ?_ | refine uC ?_ | refine uD ?_); conv => whnf) | ((first | apply Pick.dec | apply Pick.beq | apply Cond.dec | apply Cond.beq | apply Cond.nd | apply Pick.nd | apply Pick.mk | apply Cond.mk) <;> intro h <;> conv => whnf))
        clear js jw
        clear J
        intro L lw ls
        have page : ∀ (e i : Nat), i + e = d.pages.length →
            L [.und, .ptr 0 0, .und, .und, .und, .und, .und, .und, .und, .und, .und, .und, .und, .und, .und, .und, .und, .und, .und, .und, .und, .und, .und, .und, .und, .und, .und, .und, .und, .und, .und, .und, .und, .und, .und, .und, .und, .und, .und, .und, .und, .und, .und, .und, .und, .und, .und, .und, .und, .und, .und, .und, .und, .und, .und, .und, .und, .und, .und, .und, .und, .und, .und, .und, .und, .und, .und, .und, .und, .und, .und, .und, .und, .und, .und, .und, .und, .und, .und, .und, eL 19 cPg d.pages, .int .i64 (d.pages.length : Int), .int .i64 (i : Int), .und, .und, .und, .und, .und, .und, .und, .und, .und, .und, .und, .und, .und, .und, .und, .und, .und, .und, .und, .und, .und, .und, .und] [boxD d] := by
          intro e
          induction e with
          | zero =>
            intro i hi
            apply ls
            conv => whnf
            refine Cond.ff (decF (by omega)) ?_
            (conv => whnf) <;> repeat' (first | ((first | refine wN ?_ | refine wA ?_ | refine wB ?_ | refine wC ?_ | refine wD ?_ | refine vA ?_ | refine vB ?_ | refine vC ?_ | refine vD ?_ | refine uA ?_ | refine uB ?_ | refine uC ?_ | refine uD ?_); conv => whnf) | ((first | apply Pick.dec | apply Pick.beq | apply Cond.dec | apply Cond.beq | apply Cond.nd | apply Pick.nd | apply Pick.mk | apply Cond.mk) <;> intro h <;> conv => whnf))
            exact End.mk rfl rfl
          | succ e im =>
            intro i hi
            have hil : i < d.pages.length := by omega
            have gl : getL cPg d.pages (Int.toNat (i : Int)) = cPg d.pages[i] := by rw [Int.toNat_natCast]; exact getL_at (List.getElem?_eq_getElem hil)
            have e2 : IntKind.i64.wrap ((i : Int) + 1) = ((i + 1 : Nat) : Int) := by rw [wi64_id (by omega) (by omega)]; omega
            have hp1 := hd.pg _ (List.getElem_mem hil)
            have hK := Kind_ret d hd 0 (d.pages[i]).whn hp1.wf hp1.lens
            have hP := hpg _ (List.getElem_mem hil)
            have im := im (i + 1) (by omega)
            generalize d.pages[i] = p at *
            generalize kindK d 0 p.whn = q at *
            obtain ⟨q1, q2⟩ := q
            simp only at hK
            by_cases k0 : p.whn.kind = 0
            · apply ls
              conv => whnf
              refine Cond.tt (decT (by omega)) ?_
              (conv => whnf) <;> repeat' (first | ((conv => arg 1; whnf); rw [gl]; conv => whnf) | (rw [gl]; conv => whnf) | ((first | refine wN ?_ | refine wA ?_ | refine wB ?_ | refine wC ?_ | refine wD ?_ | refine Called.mk _ _ (hK) ?_ | refine vA ?_ | refine vB ?_ | refine vC ?_ | refine vD ?_ | refine uA ?_ | refine uB ?_ | refine uC ?_ | refine uD ?_); conv => whnf) | ((first | apply Pick.dec | apply Pick.beq | apply Cond.dec | apply Cond.beq | apply Cond.nd | apply Pick.nd | apply Pick.mk | apply Cond.mk) <;> intro h <;> conv => whnf))
              rw [e2]
              apply lw [0] [false, true, false, false, false, false, false, false, false, false, false, false, false, false, false, false, false, false, false, false, false, false, false, false, false, false, false, false, false, false, false, false, false, false, false, false, false, false, false, false, false, false, false, false, false, false, false, false, false, false, false, false, false, false, false, false, false, false, false, false, false, false, false, false, false, false, false, false, false, false, false, false, false, false, false, false, false, false, false, false, true, true, true] _ _ rfl
              exact im
            · have hq := hP k0
              injection hq with hq1 hq2
              subst hq1; subst hq2
              apply ls
              conv => whnf
              refine Cond.tt (decT (by omega)) ?_
              (conv => whnf) <;> repeat' (first | ((conv => arg 1; whnf); rw [gl]; conv => whnf) | (rw [gl]; conv => whnf) | ((first | refine wN ?_ | refine wA ?_ | refine wB ?_ | refine wC ?_ | refine wD ?_ | refine Called.mk _ _ (hK) ?_ | refine vA ?_ | refine vB ?_ | refine vC ?_ | refine vD ?_ | refine uA ?_ | refine uB ?_ | refine uC ?_ | refine uD ?_); conv => whnf) | ((first | apply Pick.dec | apply Pick.beq | apply Cond.dec | apply Cond.beq | apply Cond.nd | apply Pick.nd | apply Pick.mk | apply Cond.mk) <;> intro h <;> conv => whnf))
              rw [e2]
              apply lw [0] [false, true, false, false, false, false, false, false, false, false, false, false, false, false, false, false, false, false, false, false, false, false, false, false, false, false, false, false, false, false, false, false, false, false, false, false, false, false, false, false, false, false, false, false, false, false, false, false, false, false, false, false, false, false, false, false, false, false, false, false, false, false, false, false, false, false, false, false, false, false, false, false, false, false, false, false, false, false, false, false, true, true, true] _ _ rfl
              exact im
        apply lw [0] [false, true, false, false, false, false, false, false, false, false, false, false, false, false, false, false, false, false, false, false, false, false, false, false, false, false, false, false, false, false, false, false, false, false, false, false, false, false, false, false, false, false, false, false, false, false, false, false, false, false, false, false, false, false, false, false, false, false, false, false, false, false, false, false, false, false, false, false, false, false, false, false, false, false, false, false, false, false, false, false, true, true, true] _ _ rfl
        exact page d.pages.length 0 (by omega)
    apply jw [0] [false, true, false, false, false, false, false, false, false, false, false, false, false, false, false, false, false, false, false, false, false, false, false, false, false, false, false, false, true, true, true] _ _ rfl
    exact sect d.flat.length 0 (by omega)
  · refine ret_of_body atCalls tok mixed Try.func6 (by kernel_rfl) rfl (k := 106) (rs := [.tmp 2]) (by kernel_rfl) (by kernel_rfl) ?_
    (conv => whnf) <;> repeat' (first | ((first | refine wN ?_ | refine wA ?_ | refine wB ?_ | refine wC ?_ | refine wD ?_ | refine Called.mk _ _ (hC) ?_ | refine Called.mk _ _ (begun10) ?_ | refine vA ?_ | refine vB ?_ | refine vC ?_ | refine vD ?_ | refine uA ?_ | refine uB ?_ | refine uC ?_ | refine uD ?_); conv => whnf) | ((first | apply Pick.dec | apply Pick.beq | apply Cond.dec | apply Cond.beq | apply Cond.nd | apply Pick.nd | apply Pick.mk | apply Cond.mk) <;> intro h <;> conv => whnf))
    exact End.mk rfl rfl
end Go.Proofs.Ytkglccolonpnlaa

