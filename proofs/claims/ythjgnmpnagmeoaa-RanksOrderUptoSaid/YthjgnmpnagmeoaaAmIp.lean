/- What an expression reads, as a list without doubles. -/
import Derived.Test.YthjgnmpnagmeoaaAmHn
import Derived.Test.YthjgnmpnagmeoaaAmHr
import Derived.Test.YthjgnmpnagmeoaaAmGL
import Derived.Test.YthjgnmpnagmeoaaAmHz
import Derived.Test.YthjgnmpnagmeoaaAmHy
import Derived.Test.YthjgnmpnagmeoaaAmPure
import Derived.Shelf.Lay
import Derived.Lib.SliceRun
import Derived.Maps.AppendAt
import Derived.WalkKit
import Derived.BigCall
set_option linter.unusedVariables false
set_option linter.unusedSimpArgs false
set_option maxRecDepth 100000
namespace Go.AM
/-! ### the last one first -/
theorem Ret.raise {P : Program} {f : FuncId} {as' : List Val} {v : Val} {h h1 : List Blk} (hr : Ret P f as' h v h1) : Ret P f as' h v (h1.map raiseB) := by
  refine ⟨hr.1, fun ι φ w cargs k1 k2 k3 => (hr.2 ι φ w cargs k1 k2 k3).mono ?_⟩
  rintro e w' ⟨cv, ι', φ', rfl, hm, hI, hv, hend⟩
  refine ⟨cv, ι', φ', rfl, hm, hI.raise fun b => ?_, hv, fun b hb => hend b (by simpa using hb)⟩
  rcases Nat.lt_or_ge b h1.length with hb | hb
  · exact .inr (by simp [getH, List.getD_eq_getElem?_getD, hb])
  · exact .inl (by rw [getH_ge hb, getH_ge (by simpa using hb)])
/-! ### as the document gathers them -/
end Go.AM

set_option linter.unusedVariables false
set_option linter.unusedSimpArgs false
set_option maxRecDepth 100000
namespace Go.Proofs.Ythjgnmpnagmeoaa
open Go.AM
end Go.Proofs.Ythjgnmpnagmeoaa

set_option linter.unusedVariables false
set_option linter.unusedSimpArgs false
set_option maxRecDepth 100000
namespace Go.Proofs
open Go.RowKit Go.AM
end Go.Proofs
namespace Go.Proofs.Ythjgnmpnagmeoaa
open Go.AM Go.RowKit
end Go.Proofs.Ythjgnmpnagmeoaa

set_option linter.unusedVariables false
set_option linter.unusedSimpArgs false
set_option maxRecDepth 100000
namespace Go.Proofs.Ythjgnmpnagmeoaa
open Go.AM
theorem eSc_mk (n : ByteArray) (m : Int) (it : List It) (ks : List Sc) : eSc (.mk n m it ks) = .agg [.str n, .int .i64 m, eL 23 cIt it, .ext 4 ks.length (Sc.rows ks)] := rfl
def FlQ (x : Sc) : Prop := (∀ (l : List Se) (par dep : Int) (pr : Nat), l ≠ [] → l.length ≤ 64 → (64 ≤ l.length ∨ 16 < dep) → Ret Try.prog 31 [.row 0 l.length, eSc x, .int .i64 par, .int .i64 dep] [.row 56 5 (l).length (getL cSe (l)) (pr)] (.row 0 l.length) [.row 56 5 (l).length (getL cSe (l)) (l.length)]) ∧
  (∀ (l : List Se) (par dep : Int) (pr : Nat), l ≠ [] → ¬ (64 ≤ l.length ∨ 16 < dep) → 0 ≤ dep → Ret Try.prog 31 [.row 0 l.length, eSc x, .int .i64 par, .int .i64 dep] [.row 56 5 (l).length (getL cSe (l)) (pr)] (.row 1 (flatS x l par dep).length) [.gone, .row 56 5 (flatS x l par dep).length (getL cSe (flatS x l par dep)) ((flatS x l par dep).length)]) ∧
  (∀ (par dep : Int), 0 ≤ dep → dep ≤ 16 → Ret Try.prog 31 [.nils, eSc x, .int .i64 par, .int .i64 dep] [] (.row 0 (flatS x [] par dep).length) [.row 56 5 (flatS x [] par dep).length (getL cSe (flatS x [] par dep)) ((flatS x [] par dep).length)])
theorem rflat_S (n : ByteArray) (m : Int) (it : List It) (ks : List Sc) (l : List Se) (par dep : Int) (pr : Nat) (hl : l.length ≤ 64) (hg : 64 ≤ l.length ∨ 16 < dep) :
    Ret Try.prog 31 [.row 0 l.length, eSc (.mk n m it ks), .int .i64 par, .int .i64 dep] [.row 56 5 (l).length (getL cSe (l)) (pr)] (.row 0 l.length) [.row 56 5 (l).length (getL cSe (l)) (l.length)] := by
  suffices h : Ret Try.prog 31 [.row 0 l.length, eSc (.mk n m it ks), .int .i64 par, .int .i64 dep] [.row 56 5 (l).length (getL cSe (l)) (pr)] (.row 0 l.length) [.row 56 5 (l).length (getL cSe (l)) pr] from h.raise
  rw [eSc_mk]
  by_cases h64 : 64 ≤ l.length
  · refine ret_of_body atCalls tok mixed Try.func31 (by kernel_rfl) rfl (k := 51) (rs := [.tmp 8]) (by kernel_rfl) (by kernel_rfl) ?_
    (conv => whnf) <;> repeat' (first | ((first | refine wN ?_ | refine wNc ?_ | refine wA ?_ | refine wB ?_ | refine wC ?_ | refine wD ?_ | refine vA ?_ | refine vB ?_ | refine vC ?_ | refine vD ?_ | refine uA ?_ | refine uB ?_ | refine uC ?_ | refine uD ?_); conv => whnf) | ((first | apply Pick.dec | apply Pick.beq | apply Cond.dec | apply Cond.beq | apply Cond.nd | apply Pick.nd | apply Pick.mk | apply Cond.mk) <;> intro h <;> conv => whnf))
    exact EndH.mk [0] rfl rfl rfl
  · have h16 : 16 < dep := by omega
    refine ret_of_body atCalls tok mixed Try.func31 (by kernel_rfl) rfl (k := 51) (rs := [.tmp 8]) (by kernel_rfl) (by kernel_rfl) ?_
    (conv => whnf) <;> repeat' (first | ((first | refine wN ?_ | refine wNc ?_ | refine wA ?_ | refine wB ?_ | refine wC ?_ | refine wD ?_ | refine vA ?_ | refine vB ?_ | refine vC ?_ | refine vD ?_ | refine uA ?_ | refine uB ?_ | refine uC ?_ | refine uD ?_); conv => whnf) | ((first | apply Pick.dec | apply Pick.beq | apply Cond.dec | apply Cond.beq | apply Cond.nd | apply Pick.nd | apply Pick.mk | apply Cond.mk) <;> intro h <;> conv => whnf))
    exact EndH.mk [0] rfl rfl rfl
set_option maxHeartbeats 8000000 in
theorem rflat_G (n : ByteArray) (m : Int) (it : List It) (ks : List Sc) (hks : ks.length ≤ maxLen) (ih : ∀ k ∈ ks, FlQ k) (l : List Se) (par dep : Int) (pr : Nat) (hne : l ≠ []) (hgrow : ¬ (64 ≤ l.length ∨ 16 < dep)) (h0 : 0 ≤ dep) :
    Ret Try.prog 31 [.row 0 l.length, eSc (.mk n m it ks), .int .i64 par, .int .i64 dep] [.row 56 5 (l).length (getL cSe (l)) (pr)] (.row 1 (flatS (.mk n m it ks) l par dep).length) [.gone, .row 56 5 (flatS (.mk n m it ks) l par dep).length (getL cSe (flatS (.mk n m it ks) l par dep)) ((flatS (.mk n m it ks) l par dep).length)] := by
  have hm : maxLen ≤ 9223372036854775807 := by decide
  have hlen := flatL_len ks (fun k _ => flatS_len k) (l ++ [⟨par, dep, n, m, it⟩]) ((l).length : Int) (dep + 1) (by rw [List.length_append]; simp; omega)
  rw [flatS_yes hgrow]
  obtain ⟨lF, hF⟩ : ∃ lF, lF = flatL ks (l ++ [⟨par, dep, n, m, it⟩]) (l.length : Int) (dep + 1) := ⟨_, rfl⟩
  rw [← hF] at hlen ⊢
  obtain ⟨pF, hpF⟩ : ∃ p, p = (if ks = [] then pr else lF.length) := ⟨_, rfl⟩
  suffices h : Ret Try.prog 31 [.row 0 l.length, eSc (.mk n m it ks), .int .i64 par, .int .i64 dep] [.row 56 5 (l).length (getL cSe (l)) (pr)] (.row 1 lF.length) [.gone, .row 56 5 lF.length (getL cSe lF) pF] from h.raise
  rw [eSc_mk]
  have ed : IntKind.i64.wrap (dep + 1) = dep + 1 := wi64_id (by omega) (by omega)
  have hll : 0 < l.length := List.length_pos_iff.2 hne
  refine ret_of_body atCalls tok mixed Try.func31 (by kernel_rfl) rfl (k := 51) (rs := [.tmp 8]) (by kernel_rfl) (by kernel_rfl) ?_
  (conv => whnf) <;> repeat' (first | (rw [getS_snoc]; conv => whnf) | ((first | refine wN ?_ | refine wNc ?_ | refine wA ?_ | refine wB ?_ | refine wC ?_ | refine wD ?_ | refine vA ?_ | refine vB ?_ | refine vC ?_ | refine vD ?_ | refine uA ?_ | refine uB ?_ | refine uC ?_ | refine uD ?_); conv => whnf) | ((first | apply Pick.dec | apply Pick.beq | apply Cond.dec | apply Cond.beq | apply Cond.nd | apply Pick.nd | apply Pick.mk | apply Cond.mk) <;> intro h <;> conv => whnf))
  intro I hw hs
  have turn : ∀ (e i : Nat) (l1 : List Se) (me pr1 : Nat), i + e = ks.length → (me : Int) = (l.length : Int) → l1 ≠ [] → l1.length ≤ 64 → (i = ks.length → pr1 = pF) → flatL (ks.drop i) l1 (me : Int) (dep + 1) = lF → I [.row 2 l1.length, .und, .und, .int .i64 dep, .und, .ptr 1 0, .und, .und, .und, .int .i64 (me : Int), .int .i64 (i : Int), .und, .und, .und, .und, .und, .und, .und, .und, .und, .und, .und, .und, .und, .und, .und, .und, .und, .und, .und, .und, .und, .und, .und, .und, .und, .und, .und, .und, .und, .und, .und, .und, .und, .und, .und, .und, .und, .und, .und, .und] [.gone, .cells [.str n, .int .i64 m, eL 23 cIt it, .ext 4 ks.length (Sc.rows ks)], .row 56 5 l1.length (getL cSe l1) pr1] := by
    intro e
    induction e with
    | zero =>
      intro i l1 me pr1 hi hme hl1 hb hp hr
      rw [List.drop_of_length_le (by omega), flatL_nil] at hr
      subst hr
      have hp := hp (by omega)
      subst hp
      apply hs
      conv => whnf
      refine Cond.ff (decF (by omega)) ?_
      (conv => whnf) <;> repeat' (first | ((first | refine wN ?_ | refine wNc ?_ | refine wA ?_ | refine wB ?_ | refine wC ?_ | refine wD ?_ | refine vA ?_ | refine vB ?_ | refine vC ?_ | refine vD ?_ | refine uA ?_ | refine uB ?_ | refine uC ?_ | refine uD ?_); conv => whnf) | ((first | apply Pick.dec | apply Pick.beq | apply Cond.dec | apply Cond.beq | apply Cond.nd | apply Pick.nd | apply Pick.mk | apply Cond.mk) <;> intro h <;> conv => whnf))
      exact EndH.mk [0, 2] rfl rfl rfl
    | succ e im =>
      intro i l1 me pr1 hi hme hl1 hb hp hr
      have hil : i < ks.length := by omega
      have gk : Sc.rows ks (Int.toNat (i : Int)) = cSc ks[i] := by rw [Int.toNat_natCast]; exact (Sc.rows_ext ks).2 i hil
      have e1 : IntKind.i64.wrap ((i : Int) + 1) = ((i + 1 : Nat) : Int) := by rw [wi64_id (by omega) (by omega)]; omega
      have hQ := ih ks[i] (List.getElem_mem hil)
      rw [List.drop_eq_getElem_cons hil, flatL_cons] at hr
      have hlk := flatS_len ks[i] l1 (me : Int) (dep + 1) hb
      generalize ks[i] = k at *
      have hlast : i + 1 = ks.length → (flatS k l1 (me : Int) (dep + 1)).length = pF := fun e => by
        rw [List.drop_of_length_le (by omega), flatL_nil] at hr
        rw [hr, hpF, if_neg (fun h => by rw [h] at hil; simp at hil)]
      by_cases hg : 64 ≤ l1.length ∨ 16 < dep + 1
      · rw [flatS_no hg] at hr hlast
        have hc := fun pr => hQ.1 l1 (me : Int) (dep + 1) pr hl1 hb hg
        apply hs
        conv => whnf
        refine Cond.tt (decT (by omega)) ?_
        (conv => whnf) <;> repeat' (first | ((conv => arg 1; whnf); rw [gk]; conv => whnf) | (rw [ed]; conv => whnf) | (refine Called.own (CalledH.mk [2] _ _ rfl (Nat.le_refl _) (hc _) ?_); conv => whnf) | ((first | refine wN ?_ | refine wNc ?_ | refine wA ?_ | refine wB ?_ | refine wC ?_ | refine wD ?_ | refine vA ?_ | refine vB ?_ | refine vC ?_ | refine vD ?_ | refine uA ?_ | refine uB ?_ | refine uC ?_ | refine uD ?_); conv => whnf) | ((first | apply Pick.dec | apply Pick.beq | apply Cond.dec | apply Cond.beq | apply Cond.nd | apply Pick.nd | apply Pick.mk | apply Cond.mk) <;> intro h <;> conv => whnf))
        rw [e1]
        apply hw [0, 1, 2] [true, false, false, true, false, true, false, false, false, true, true] _ _ rfl
        exact im (i + 1) l1 me _ (by omega) hme hl1 hb hlast hr
      · have hc := fun pr => hQ.2.1 l1 (me : Int) (dep + 1) pr hl1 hg (by omega)
        have hl2 : flatS k l1 (me : Int) (dep + 1) ≠ [] := fun h => by
          have := hlk.1
          rw [h] at this
          exact hl1 (List.eq_nil_of_length_eq_zero (by simpa using this))
        generalize flatS k l1 (me : Int) (dep + 1) = l2 at *
        apply hs
        conv => whnf
        refine Cond.tt (decT (by omega)) ?_
        (conv => whnf) <;> repeat' (first | ((conv => arg 1; whnf); rw [gk]; conv => whnf) | (rw [ed]; conv => whnf) | (refine Called.own (CalledH.mk [2] _ _ rfl (by simp) (hc _) ?_); conv => whnf) | ((first | refine wN ?_ | refine wNc ?_ | refine wA ?_ | refine wB ?_ | refine wC ?_ | refine wD ?_ | refine vA ?_ | refine vB ?_ | refine vC ?_ | refine vD ?_ | refine uA ?_ | refine uB ?_ | refine uC ?_ | refine uD ?_); conv => whnf) | ((first | apply Pick.dec | apply Pick.beq | apply Cond.dec | apply Cond.beq | apply Cond.nd | apply Pick.nd | apply Pick.mk | apply Cond.mk) <;> intro h <;> conv => whnf))
        rw [e1]
        apply hw [0, 1, 3] [true, false, false, true, false, true, false, false, false, true, true] _ _ rfl
        exact im (i + 1) l2 me _ (by omega) hme hl2 hlk.2 hlast hr
  apply hw [0, 1, 3] [true, false, false, true, false, true, false, false, false, true, true] _ _ rfl
  have fin := turn ks.length 0 (l ++ [(⟨par, dep, n, m, it⟩ : Se)]) l.length pr (by omega) rfl (by simp) (by rw [List.length_append]; simp; omega) (fun e => by rw [hpF, if_pos (List.eq_nil_of_length_eq_zero e.symm)]) (by rw [List.drop_zero]; exact hF.symm)
  rw [List.length_append] at fin
  exact fin
set_option maxHeartbeats 8000000 in
theorem rflat_N (n : ByteArray) (m : Int) (it : List It) (ks : List Sc) (hks : ks.length ≤ maxLen) (ih : ∀ k ∈ ks, FlQ k) (par dep : Int) (h0 : 0 ≤ dep) (h16 : dep ≤ 16) :
    Ret Try.prog 31 [.nils, eSc (.mk n m it ks), .int .i64 par, .int .i64 dep] [] (.row 0 (flatS (.mk n m it ks) [] par dep).length) [.row 56 5 (flatS (.mk n m it ks) [] par dep).length (getL cSe (flatS (.mk n m it ks) [] par dep)) ((flatS (.mk n m it ks) [] par dep).length)] := by
  have hm : maxLen ≤ 9223372036854775807 := by decide
  have hgrow : ¬ (64 ≤ ([] : List Se).length ∨ 16 < dep) := by simp; omega
  have hlen := flatL_len ks (fun k _ => flatS_len k) ([⟨par, dep, n, m, it⟩]) (0 : Int) (dep + 1) (by simp)
  rw [flatS_yes hgrow]
  show Ret _ _ _ _ (.row 0 (flatL ks [⟨par, dep, n, m, it⟩] 0 (dep + 1)).length) [.row _ 5 (flatL ks [⟨par, dep, n, m, it⟩] 0 (dep + 1)).length (getL cSe (flatL ks [⟨par, dep, n, m, it⟩] 0 (dep + 1))) (flatL ks [⟨par, dep, n, m, it⟩] 0 (dep + 1)).length]
  obtain ⟨lF, hF⟩ : ∃ lF, lF = flatL ks [⟨par, dep, n, m, it⟩] 0 (dep + 1) := ⟨_, rfl⟩
  rw [← hF] at hlen ⊢
  obtain ⟨pF, hpF⟩ : ∃ p, p = (if ks = [] then 0 else lF.length) := ⟨_, rfl⟩
  suffices h : Ret Try.prog 31 [.nils, eSc (.mk n m it ks), .int .i64 par, .int .i64 dep] [] (.row 0 lF.length) [.row 56 5 lF.length (getL cSe lF) pF] from h.raise
  rw [eSc_mk]
  have ed : IntKind.i64.wrap (dep + 1) = dep + 1 := wi64_id (by omega) (by omega)
  refine ret_of_body atCalls tok mixed Try.func31 (by kernel_rfl) rfl (k := 51) (rs := [.tmp 8]) (by kernel_rfl) (by kernel_rfl) ?_
  (conv => whnf) <;> repeat' (first | (rw [getS_one]; conv => whnf) | ((first | refine wN ?_ | refine wNc ?_ | refine wA ?_ | refine wB ?_ | refine wC ?_ | refine wD ?_ | refine vA ?_ | refine vB ?_ | refine vC ?_ | refine vD ?_ | refine uA ?_ | refine uB ?_ | refine uC ?_ | refine uD ?_); conv => whnf) | ((first | apply Pick.dec | apply Pick.beq | apply Cond.dec | apply Cond.beq | apply Cond.nd | apply Pick.nd | apply Pick.mk | apply Cond.mk) <;> intro h <;> conv => whnf))
  intro I hw hs
  have turn : ∀ (e i : Nat) (l1 : List Se) (me pr1 : Nat), i + e = ks.length → (me : Int) = 0 → l1 ≠ [] → l1.length ≤ 64 → (i = ks.length → pr1 = pF) → flatL (ks.drop i) l1 (me : Int) (dep + 1) = lF → I [.row 1 l1.length, .und, .und, .int .i64 dep, .und, .ptr 0 0, .und, .und, .und, .int .i64 (me : Int), .int .i64 (i : Int), .und, .und, .und, .und, .und, .und, .und, .und, .und, .und, .und, .und, .und, .und, .und, .und, .und, .und, .und, .und, .und, .und, .und, .und, .und, .und, .und, .und, .und, .und, .und, .und, .und, .und, .und, .und, .und, .und, .und, .und] [.cells [.str n, .int .i64 m, eL 23 cIt it, .ext 4 ks.length (Sc.rows ks)], .row 56 5 l1.length (getL cSe l1) pr1] := by
    intro e
    induction e with
    | zero =>
      intro i l1 me pr1 hi hme hl1 hb hp hr
      rw [List.drop_of_length_le (by omega), flatL_nil] at hr
      subst hr
      have hp := hp (by omega)
      subst hp
      apply hs
      conv => whnf
      refine Cond.ff (decF (by omega)) ?_
      (conv => whnf) <;> repeat' (first | ((first | refine wN ?_ | refine wNc ?_ | refine wA ?_ | refine wB ?_ | refine wC ?_ | refine wD ?_ | refine vA ?_ | refine vB ?_ | refine vC ?_ | refine vD ?_ | refine uA ?_ | refine uB ?_ | refine uC ?_ | refine uD ?_); conv => whnf) | ((first | apply Pick.dec | apply Pick.beq | apply Cond.dec | apply Cond.beq | apply Cond.nd | apply Pick.nd | apply Pick.mk | apply Cond.mk) <;> intro h <;> conv => whnf))
      exact EndH.mk [1] rfl rfl rfl
    | succ e im =>
      intro i l1 me pr1 hi hme hl1 hb hp hr
      have hil : i < ks.length := by omega
      have gk : Sc.rows ks (Int.toNat (i : Int)) = cSc ks[i] := by rw [Int.toNat_natCast]; exact (Sc.rows_ext ks).2 i hil
      have e1 : IntKind.i64.wrap ((i : Int) + 1) = ((i + 1 : Nat) : Int) := by rw [wi64_id (by omega) (by omega)]; omega
      have hQ := ih ks[i] (List.getElem_mem hil)
      rw [List.drop_eq_getElem_cons hil, flatL_cons] at hr
      have hlk := flatS_len ks[i] l1 (me : Int) (dep + 1) hb
      generalize ks[i] = k at *
      have hlast : i + 1 = ks.length → (flatS k l1 (me : Int) (dep + 1)).length = pF := fun e => by
        rw [List.drop_of_length_le (by omega), flatL_nil] at hr
        rw [hr, hpF, if_neg (fun h => by rw [h] at hil; simp at hil)]
      by_cases hg : 64 ≤ l1.length ∨ 16 < dep + 1
      · rw [flatS_no hg] at hr hlast
        have hc := fun pr => hQ.1 l1 (me : Int) (dep + 1) pr hl1 hb hg
        apply hs
        conv => whnf
        refine Cond.tt (decT (by omega)) ?_
        (conv => whnf) <;> repeat' (first | ((conv => arg 1; whnf); rw [gk]; conv => whnf) | (rw [ed]; conv => whnf) | (refine Called.own (CalledH.mk [1] _ _ rfl (Nat.le_refl _) (hc _) ?_); conv => whnf) | ((first | refine wN ?_ | refine wNc ?_ | refine wA ?_ | refine wB ?_ | refine wC ?_ | refine wD ?_ | refine vA ?_ | refine vB ?_ | refine vC ?_ | refine vD ?_ | refine uA ?_ | refine uB ?_ | refine uC ?_ | refine uD ?_); conv => whnf) | ((first | apply Pick.dec | apply Pick.beq | apply Cond.dec | apply Cond.beq | apply Cond.nd | apply Pick.nd | apply Pick.mk | apply Cond.mk) <;> intro h <;> conv => whnf))
        rw [e1]
        apply hw [0, 1] [true, false, false, true, false, true, false, false, false, true, true] _ _ rfl
        exact im (i + 1) l1 me _ (by omega) hme hl1 hb hlast hr
      · have hc := fun pr => hQ.2.1 l1 (me : Int) (dep + 1) pr hl1 hg (by omega)
        have hl2 : flatS k l1 (me : Int) (dep + 1) ≠ [] := fun h => by
          have := hlk.1
          rw [h] at this
          exact hl1 (List.eq_nil_of_length_eq_zero (by simpa using this))
        generalize flatS k l1 (me : Int) (dep + 1) = l2 at *
        apply hs
        conv => whnf
        refine Cond.tt (decT (by omega)) ?_
        (conv => whnf) <;> repeat' (first | ((conv => arg 1; whnf); rw [gk]; conv => whnf) | (rw [ed]; conv => whnf) | (refine Called.own (CalledH.mk [1] _ _ rfl (by simp) (hc _) ?_); conv => whnf) | ((first | refine wN ?_ | refine wNc ?_ | refine wA ?_ | refine wB ?_ | refine wC ?_ | refine wD ?_ | refine vA ?_ | refine vB ?_ | refine vC ?_ | refine vD ?_ | refine uA ?_ | refine uB ?_ | refine uC ?_ | refine uD ?_); conv => whnf) | ((first | apply Pick.dec | apply Pick.beq | apply Cond.dec | apply Cond.beq | apply Cond.nd | apply Pick.nd | apply Pick.mk | apply Cond.mk) <;> intro h <;> conv => whnf))
        rw [e1]
        apply hw [0, 2] [true, false, false, true, false, true, false, false, false, true, true] _ _ rfl
        exact im (i + 1) l2 me _ (by omega) hme hl2 hlk.2 hlast hr
  apply hw [0, 2] [true, false, false, true, false, true, false, false, false, true, true] _ _ rfl
  exact turn ks.length 0 [(⟨par, dep, n, m, it⟩ : Se)] 0 0 (by omega) rfl (by simp) (by simp) (fun e => by rw [hpF, if_pos (List.eq_nil_of_length_eq_zero e.symm)]) (by rw [List.drop_zero]; exact hF.symm)
end Go.Proofs.Ythjgnmpnagmeoaa

set_option linter.unusedVariables false
set_option linter.unusedSimpArgs false
set_option maxRecDepth 100000
namespace Go.Proofs.Ythjgnmpnagmeoaa
open Go.AM
end Go.Proofs.Ythjgnmpnagmeoaa

set_option linter.unusedVariables false
set_option linter.unusedSimpArgs false
set_option maxRecDepth 100000
namespace Go.Proofs.Ythjgnmpnagmeoaa
open Go.AM
theorem rflat_all (x : Sc) : x.Ok → FlQ x := by
  refine Sc.ind (Q := fun x => x.Ok → FlQ x) ?_ x
  clear x
  intro x ih hx
  obtain ⟨n, m, it, ks⟩ := x
  have ih : ∀ k ∈ ks, FlQ k := fun k hk => ih k hk (hx.kid hk)
  exact ⟨fun l par dep pr _ hl hg => rflat_S n m it ks l par dep pr hl hg, fun l par dep pr hne hg h0 => rflat_G n m it ks hx.kids1 ih l par dep pr hne hg h0, fun par dep h0 h1 => rflat_N n m it ks hx.kids1 ih par dep h0 h1⟩
theorem rFlat_ret (d : Df) (hd : d.Ok) : Ret Try.prog 8 [eDf d] [] (eL 5 cSe d.flat) [] := by
  have hc := (rflat_all d.root hd.root).2.2 (-1) 1 (by decide) (by decide)
  have hf : flatS d.root [] (-1) 1 = d.flat := rfl
  rw [hf] at hc
  generalize d.flat = l at *
  have h : Ret Try.prog 8 [eDf d] [] (.row 0 l.length) [.row 56 5 l.length (getL cSe l) l.length] := by
    refine ret_of_body atCalls tok mixed Try.func8 (by kernel_rfl) rfl (k := 6) (rs := [.tmp 2]) (by kernel_rfl) (by kernel_rfl) ?_
    (conv => whnf) <;> repeat' (first | ((first | refine wN ?_ | refine wNc ?_ | refine wA ?_ | refine wB ?_ | refine wC ?_ | refine wD ?_ | refine Called.mk _ _ (hc) ?_ | refine vA ?_ | refine vB ?_ | refine vC ?_ | refine vD ?_ | refine uA ?_ | refine uB ?_ | refine uC ?_ | refine uD ?_); conv => whnf) | ((first | apply Pick.dec | apply Pick.beq | apply Cond.dec | apply Cond.beq | apply Cond.nd | apply Pick.nd | apply Pick.mk | apply Cond.mk) <;> intro h <;> conv => whnf))
    exact EndH.mk [1] rfl rfl rfl
  exact h.lend ⟨rfl, Nat.le_refl _, Nat.le_refl _⟩ rfl
end Go.Proofs.Ythjgnmpnagmeoaa

