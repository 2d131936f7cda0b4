/- exciseref17.Cols. Printed by wip/tools/colsgen.py. -/
import Derived.Test.YtlbocjcponegcaaGreatAmIy
import Derived.Test.YtlbocjcponegcaaGreatAmIs
set_option linter.unusedVariables false
set_option linter.unusedSimpArgs false
set_option maxRecDepth 100000
namespace Go.Proofs.YtlbocjcponegcaaGreat
open Go.AM
theorem rless_ret (a b : CK) : Ret Tryz.prog 114 [.agg (cK a), .agg (cK b)] [] (.bool (ltK a b)) [] := by
  obtain ⟨a1, a2⟩ := a
  obtain ⟨b1, b2⟩ := b
  have e : ltK (a1, a2) (b1, b2) = (Op.bytesLess a1.toList b1.toList || ((a1.toList == b1.toList) && Op.bytesLess a2.toList b2.toList)) := by rw [toList_eq]; rfl
  rw [e]
  cases h1 : Op.bytesLess a1.toList b1.toList
  · cases h3 : (a1.toList == b1.toList)
    · refine ret_of_body atCalls tok mixed Tryz.func114 (by kernel_rfl) rfl (k := 24) (rs := [.tmp 4]) (by kernel_rfl) (by kernel_rfl) ?_
      (conv => whnf) <;> repeat' (first | (rw [h1]; conv => whnf) | (rw [h3]; conv => whnf) | ((first | refine wN ?_ | refine wNc ?_ | refine wA ?_ | refine wB ?_ | refine wC ?_ | refine wD ?_ | refine vA ?_ | refine vB ?_ | refine vC ?_ | refine vD ?_ | refine uA ?_ | refine uB ?_ | refine uC ?_ | refine uD ?_); conv => whnf) | ((first | apply Pick.dec | apply Pick.beq | apply Cond.dec | apply Cond.beq | apply Cond.nd | apply Pick.nd | apply Pick.mk | apply Cond.mk) <;> intro h <;> conv => whnf))
      exact End.mk rfl rfl
    · cases h2 : Op.bytesLess a2.toList b2.toList
      · refine ret_of_body atCalls tok mixed Tryz.func114 (by kernel_rfl) rfl (k := 24) (rs := [.tmp 4]) (by kernel_rfl) (by kernel_rfl) ?_
        (conv => whnf) <;> repeat' (first | (rw [h1]; conv => whnf) | (rw [h3]; conv => whnf) | (rw [h2]; conv => whnf) | ((first | refine wN ?_ | refine wNc ?_ | refine wA ?_ | refine wB ?_ | refine wC ?_ | refine wD ?_ | refine vA ?_ | refine vB ?_ | refine vC ?_ | refine vD ?_ | refine uA ?_ | refine uB ?_ | refine uC ?_ | refine uD ?_); conv => whnf) | ((first | apply Pick.dec | apply Pick.beq | apply Cond.dec | apply Cond.beq | apply Cond.nd | apply Pick.nd | apply Pick.mk | apply Cond.mk) <;> intro h <;> conv => whnf))
        exact End.mk rfl rfl
      · refine ret_of_body atCalls tok mixed Tryz.func114 (by kernel_rfl) rfl (k := 24) (rs := [.tmp 4]) (by kernel_rfl) (by kernel_rfl) ?_
        (conv => whnf) <;> repeat' (first | (rw [h1]; conv => whnf) | (rw [h3]; conv => whnf) | (rw [h2]; conv => whnf) | ((first | refine wN ?_ | refine wNc ?_ | refine wA ?_ | refine wB ?_ | refine wC ?_ | refine wD ?_ | refine vA ?_ | refine vB ?_ | refine vC ?_ | refine vD ?_ | refine uA ?_ | refine uB ?_ | refine uC ?_ | refine uD ?_); conv => whnf) | ((first | apply Pick.dec | apply Pick.beq | apply Cond.dec | apply Cond.beq | apply Cond.nd | apply Pick.nd | apply Pick.mk | apply Cond.mk) <;> intro h <;> conv => whnf))
        exact End.mk rfl rfl
  · refine ret_of_body atCalls tok mixed Tryz.func114 (by kernel_rfl) rfl (k := 24) (rs := [.tmp 4]) (by kernel_rfl) (by kernel_rfl) ?_
    (conv => whnf) <;> repeat' (first | (rw [h1]; conv => whnf) | ((first | refine wN ?_ | refine wNc ?_ | refine wA ?_ | refine wB ?_ | refine wC ?_ | refine wD ?_ | refine vA ?_ | refine vB ?_ | refine vC ?_ | refine vD ?_ | refine uA ?_ | refine uB ?_ | refine uC ?_ | refine uD ?_); conv => whnf) | ((first | apply Pick.dec | apply Pick.beq | apply Cond.dec | apply Cond.beq | apply Cond.nd | apply Pick.nd | apply Pick.mk | apply Cond.mk) <;> intro h <;> conv => whnf))
    exact End.mk rfl rfl
set_option maxHeartbeats 8000000 in
theorem rcols_ret (x : Xp) : x.Wf → ∀ out : List CK, out.length + cntX x ≤ 1048576 → Ret Tryz.prog 70 [eE x, eL 2 cK out] [] (eL 2 cK (walkF colR x out)) [] := by
  refine Xp.ind (Q := fun x => x.Wf → ∀ out : List CK, out.length + cntX x ≤ 1048576 → Ret Tryz.prog 70 [eE x, eL 2 cK out] [] (eL 2 cK (walkF colR x out)) []) ?_ x
  clear x
  intro x ih hx out hb
  have hm : maxLen ≤ 9223372036854775807 := by decide
  have har := hx.one.len
  obtain ⟨k, o, n, s, v, sc, p, ar⟩ := x
  have har : ar.length ≤ maxLen := har
  rw [cntX_mk] at hb
  have ihy : ∀ y ∈ ar, ∀ out : List CK, out.length + cntX y ≤ 1048576 → Ret Tryz.prog 70 [eE y, eL 2 cK out] [] (eL 2 cK (walkF colR y out)) [] := fun y hy => ih y hy (hx.arg hy)
  have hK : Ret Tryz.prog 46 [eE (.mk k o n s v sc p ar)] [] (eCK (colK o s n)) [] := fkey_ret (.mk k o n s v sc p ar)
  rw [walkF_mk]
  rw [cE_mk] at hK ⊢
  have hnr : colR (.mk k o n s v sc p ar) out = if k = 10 then putG ltK (colK o s n) out else out := rfl
  generalize hrF : walkL colR ar (colR (.mk k o n s v sc p ar) out) = rF
  rw [hnr] at hrF
  clear hnr ih hx
  generalize colK o s n = c at *
  refine ret_of_holds tok Tryz.func70 (by kernel_rfl) rfl (k := 68) (rs := [.tmp 4]) (by kernel_rfl) (by kernel_rfl) ?_
  conv => whnf
  refine Holds.seq (.of_wp (R := atCalls) tok mixed ?_)
  (conv => whnf) <;> repeat' (first | ((first | refine wN ?_ | refine wNc ?_ | refine wA ?_ | refine wB ?_ | refine wC ?_ | refine wD ?_ | refine vA ?_ | refine vB ?_ | refine vC ?_ | refine vD ?_ | refine uA ?_ | refine uB ?_ | refine uC ?_ | refine uD ?_); conv => whnf) | ((first | apply Pick.dec | apply Pick.beq | apply Cond.dec | apply Cond.beq | apply Cond.nd | apply Pick.nd | apply Pick.mk | apply Cond.mk) <;> intro h <;> conv => whnf))
  refine Holds.cut (fun d K => ∀ o1 : List CK, o1.length + cntL ar ≤ 1048576 → (if k = 10 then putG ltK c out else out) = o1 → Holds Tryz.prog 0 d [.und, eL 2 cK o1, .ptr 0 0, .und, .und, .und, .und, .und, .und, .und, .und, .und, .und, .und, .und, .und, .und, .und, .und, .und, .und, .und, .und, .und, .und, .und, .und, .und, .und, .und, .und, .und, .und, .und, .und, .und, .und, .und, .und, .und, .und, .und, .und, .und, .und, .und, .und, .und, .und, .und, .und, .und, .und, .und, .und, .und, .und, .und, .und, .und, .und, .und, .und, .und, .und, .und, .und, .und] [.cells [.int .i64 k, .int .i64 o, .str n, .str s, .int .i64 v.kind, .bool v.num.neg, .int .u64 (l0 v.num.n), .int .u64 (l1 v.num.n), .int .u64 (l2 v.num.n), .int .u64 (l3 v.num.n), .int .i64 v.num.scale, .bool v.flag, .str v.text, .int .i64 v.err, .int .i64 sc, .int .i64 p, .ext 17 ar.length (Xp.rows ar)]] K) ?_ fun d tail => ?_
  · intro o1 hb1 ho1
    rw [ho1] at hrF
    clear hK ho1 hb
    refine .of_wp (R := atCalls) tok mixed ?_
    (conv => whnf) <;> repeat' (first | ((first | refine wN ?_ | refine wNc ?_ | refine wA ?_ | refine wB ?_ | refine wC ?_ | refine wD ?_ | refine vA ?_ | refine vB ?_ | refine vC ?_ | refine vD ?_ | refine uA ?_ | refine uB ?_ | refine uC ?_ | refine uD ?_); conv => whnf) | ((first | apply Pick.dec | apply Pick.beq | apply Cond.dec | apply Cond.beq | apply Cond.nd | apply Pick.nd | apply Pick.mk | apply Cond.mk) <;> intro h <;> conv => whnf))
    intro J jw js
    have turn : ∀ (d i : Nat) (o1 : List CK), i + d = ar.length → walkL colR (ar.drop i) o1 = rF → o1.length + cntL (ar.drop i) ≤ 1048576 → J [.und, eL 2 cK o1, .ptr 0 0, .und, .und, .und, .und, .und, .int .i64 (i : Int), .und, .und, .und, .und, .und, .und, .und, .und, .und, .und, .und, .und, .und, .und, .und, .und, .und, .und, .und, .und, .und, .und, .und, .und, .und, .und, .und, .und, .und, .und, .und, .und, .und, .und, .und, .und, .und, .und, .und, .und, .und, .und, .und, .und, .und, .und, .und, .und, .und, .und, .und, .und, .und, .und, .und, .und, .und, .und, .und] [.cells [.int .i64 k, .int .i64 o, .str n, .str s, .int .i64 v.kind, .bool v.num.neg, .int .u64 (l0 v.num.n), .int .u64 (l1 v.num.n), .int .u64 (l2 v.num.n), .int .u64 (l3 v.num.n), .int .i64 v.num.scale, .bool v.flag, .str v.text, .int .i64 v.err, .int .i64 sc, .int .i64 p, .ext 17 ar.length (Xp.rows ar)]] := by
      intro d
      induction d with
      | zero =>
        intro i o1 hi hf hb
        rw [List.drop_of_length_le (by omega), walkL_nil] at hf
        subst hf
        apply js
        conv => whnf
        refine Cond.ff (decF (by omega)) ?_
        (conv => whnf) <;> repeat' (first | ((first | refine wN ?_ | refine wNc ?_ | refine wA ?_ | refine wB ?_ | refine wC ?_ | refine wD ?_ | refine vA ?_ | refine vB ?_ | refine vC ?_ | refine vD ?_ | refine uA ?_ | refine uB ?_ | refine uC ?_ | refine uD ?_); conv => whnf) | ((first | apply Pick.dec | apply Pick.beq | apply Cond.dec | apply Cond.beq | apply Cond.nd | apply Pick.nd | apply Pick.mk | apply Cond.mk) <;> intro h <;> conv => whnf))
        exact End.mk rfl rfl
      | succ d im =>
        intro i o1 hi hf hb
        have hil : i < ar.length := by omega
        have gk : Xp.rows ar (Int.toNat (i : Int)) = cE ar[i] := by rw [Int.toNat_natCast]; exact (Xp.rows_ext ar).2 i hil
        have e1 : IntKind.i64.wrap ((i : Int) + 1) = ((i + 1 : Nat) : Int) := by rw [wi64_id (by omega) (by omega)]; omega
        rw [List.drop_eq_getElem_cons hil] at hf hb
        rw [walkL_cons] at hf
        rw [cntL_cons] at hb
        have hc := ihy ar[i] (List.getElem_mem hil) o1 (by omega)
        have hl := colR_len ar[i] o1
        have im := im (i + 1) (walkF colR ar[i] o1) (by omega) hf (by omega)
        generalize walkF colR ar[i] o1 = o2 at *
        generalize ar[i] = y at *
        apply js
        conv => whnf
        refine Cond.tt (decT (by omega)) ?_
        (conv => whnf) <;> repeat' (first | ((conv => arg 1; whnf); rw [gk]; conv => whnf) | ((first | refine wN ?_ | refine wNc ?_ | refine wA ?_ | refine wB ?_ | refine wC ?_ | refine wD ?_ | refine Called.mk _ _ (hc) ?_ | refine vA ?_ | refine vB ?_ | refine vC ?_ | refine vD ?_ | refine uA ?_ | refine uB ?_ | refine uC ?_ | refine uD ?_); conv => whnf) | ((first | apply Pick.dec | apply Pick.beq | apply Cond.dec | apply Cond.beq | apply Cond.nd | apply Pick.nd | apply Pick.mk | apply Cond.mk) <;> intro h <;> conv => whnf))
        rw [e1]
        apply jw [0] [false, true, true, false, false, false, false, false, true] _ _ rfl
        exact im
    apply jw [0] [false, true, true, false, false, false, false, false, true] _ _ rfl
    exact turn ar.length 0 o1 (by omega) hrF (by rw [List.drop_zero]; exact hb1)
  · clear ihy hrF
    by_cases hk : k = 10
    · subst hk
      have hL := fun y => rless_ret y c
      have hq := posG_le (lt := ltK) c out
      have hlt : ∀ (i : Nat) (h : i < out.length), i < posG ltK c out → ltK out[i] c = true := fun i h hi => posG_lt h hi
      have hge : ∀ h : posG ltK c out < out.length, ltK out[posG ltK c out] c = false := fun h => posG_ge h
      have hput := putG_pos (lt := ltK) c out
      have tail : ∀ o1 : List CK, o1.length ≤ out.length + 1 → putG ltK c out = o1 → _ := fun o1 h1 h2 => tail o1 (by omega) ((if_pos rfl).trans h2)
      generalize posG ltK c out = q at *
      refine .of_wp (R := atCalls) tok mixed ?_
      (conv => whnf) <;> repeat' (first | ((first | refine wN ?_ | refine wNc ?_ | refine wA ?_ | refine wB ?_ | refine wC ?_ | refine wD ?_ | refine Called.mk _ _ (hK) ?_ | refine vA ?_ | refine vB ?_ | refine vC ?_ | refine vD ?_ | refine uA ?_ | refine uB ?_ | refine uC ?_ | refine uD ?_); conv => whnf) | ((first | apply Pick.dec | apply Pick.beq | apply Cond.dec | apply Cond.beq | apply Cond.nd | apply Pick.nd | apply Pick.mk | apply Cond.mk) <;> intro h <;> conv => whnf))
      intro I jw js
      have key : ∀ (d j : Nat), j + d = q → I [.und, eL 2 cK out, .ptr 0 0, .und, .und, .ptr 1 0, .int .i64 (j : Int), .und, .und, .und, .und, .und, .und, .und, .und, .und, .und, .und, .und, .und, .und, .und, .und, .und, .und, .und, .und, .und, .und, .und, .und, .und, .und, .und, .und, .und, .und, .und, .und, .und, .und, .und, .und, .und, .und, .und, .und, .und, .und, .und, .und, .und, .und, .und, .und, .und, .und, .und, .und, .und, .und, .und, .und, .und, .und, .und, .und, .und] [.cells [.int .i64 10, .int .i64 o, .str n, .str s, .int .i64 v.kind, .bool v.num.neg, .int .u64 (l0 v.num.n), .int .u64 (l1 v.num.n), .int .u64 (l2 v.num.n), .int .u64 (l3 v.num.n), .int .i64 v.num.scale, .bool v.flag, .str v.text, .int .i64 v.err, .int .i64 sc, .int .i64 p, .ext 17 ar.length (Xp.rows ar)], .cells [.str c.1, .str c.2]] := by
        intro d
        induction d with
        | zero =>
          intro j hj
          obtain rfl : j = q := by omega
          apply js
          by_cases hjl : j < out.length
          · have gk : getL cK out (Int.toNat (j : Int)) = cK out[j] := by rw [Int.toNat_natCast]; exact getL_at (List.getElem?_eq_getElem hjl)
            have h1 := hL out[j]
            rw [hge hjl] at h1
            by_cases hx : out[j] = c
            · have tl := tail out (by omega) (by rw [hput, if_pos (by rw [List.getElem?_eq_getElem hjl, hx])])
              have h2 : (out[j].1.toList == c.1.toList) = true := by rw [toList_eq, hx]; simp
              have h3 : (out[j].2.toList == c.2.toList) = true := by rw [toList_eq, hx]; simp
              generalize out[j] = x at *
              (conv => whnf) <;> repeat' (first | ((conv => arg 1; whnf); rw [gk]; conv => whnf) | (rw [h2]; conv => whnf) | (rw [h3]; conv => whnf) | ((first | refine wN ?_ | refine wNc ?_ | refine wA ?_ | refine wB ?_ | refine wC ?_ | refine wD ?_ | refine Called.mk _ _ (h1) ?_ | refine vA ?_ | refine vB ?_ | refine vC ?_ | refine vD ?_ | refine uA ?_ | refine uB ?_ | refine uC ?_ | refine uD ?_); conv => whnf) | ((first | apply Pick.dec | apply Pick.beq | apply Cond.dec | apply Cond.beq | apply Cond.nd | apply Pick.nd | apply Pick.mk | apply Cond.mk) <;> intro h <;> conv => whnf))
              all_goals first
                | (exact Holds.gc [0] [false, true, true] rfl tl)
                | (exfalso; simp_all; done)
            · have h2 : ((out[j].1.toList == c.1.toList) && ((out[j].2.toList == c.2.toList) && true)) = false := by
                rw [toList_eq, toList_eq, Bool.and_true]
                by_cases e1 : out[j].1 = c.1
                · have e2 : ¬ out[j].2 = c.2 := fun e2 => hx (Prod.ext e1 e2)
                  simp [e2]
                · simp [e1]
              have hput2 := hput.trans (if_neg (fun e => hx (by rw [List.getElem?_eq_getElem hjl] at e; exact Option.some.inj e)))
              generalize out[j] = x at *
              rcases Nat.eq_zero_or_pos j with h0 | h0
              · subst h0
                have tl := tail (c :: out) (by simp <;> omega) hput2
                (conv => whnf) <;> repeat' (first | ((conv => arg 1; whnf); rw [gk]; conv => whnf) | (rw [h2]; conv => whnf) | ((first | refine wN ?_ | refine wNc ?_ | refine wA ?_ | refine wB ?_ | refine wC ?_ | refine wD ?_ | refine Called.mk _ _ (h1) ?_ | refine vA ?_ | refine vB ?_ | refine vC ?_ | refine vD ?_ | refine uA ?_ | refine uB ?_ | refine uC ?_ | refine uD ?_); conv => whnf) | ((first | apply Pick.dec | apply Pick.beq | apply Cond.dec | apply Cond.beq | apply Cond.nd | apply Pick.nd | apply Pick.mk | apply Cond.mk) <;> intro h <;> conv => whnf))
                all_goals exact Holds.lendL (enc := cK) (l := c :: out) 1 4 rfl rfl (insG0_ext (sz := 2) (enc := cK) rfl) (Holds.gc [0] [false, true, true] rfl tl)
              · have tl := tail (out.take j ++ c :: out.drop j) (by simp <;> omega) hput2
                obtain ⟨i, rfl⟩ : ∃ i, j = i + 1 := ⟨j - 1, by omega⟩
                (conv => whnf) <;> repeat' (first | ((conv => arg 1; whnf); rw [gk]; conv => whnf) | (rw [h2]; conv => whnf) | ((first | refine wN ?_ | refine wNc ?_ | refine wA ?_ | refine wB ?_ | refine wC ?_ | refine wD ?_ | refine Called.mk _ _ (h1) ?_ | refine vA ?_ | refine vB ?_ | refine vC ?_ | refine vD ?_ | refine uA ?_ | refine uB ?_ | refine uC ?_ | refine uD ?_); conv => whnf) | ((first | apply Pick.dec | apply Pick.beq | apply Cond.dec | apply Cond.beq | apply Cond.nd | apply Pick.nd | apply Pick.mk | apply Cond.mk) <;> intro h <;> conv => whnf))
                all_goals exact Holds.lendL (enc := cK) (l := out.take (i + 1) ++ c :: out.drop (i + 1)) 1 5 rfl rfl (insG_ext (sz := 2) (enc := cK) rfl (by omega)) (Holds.gc [0] [false, true, true] rfl tl)
          · obtain rfl : j = out.length := by omega
            have hput2 := hput.trans (if_neg (fun e => by rw [List.getElem?_eq_none (Nat.le_refl _)] at e; cases e))
            clear hge hlt hput
            rcases Nat.eq_zero_or_pos out.length with h0 | h0
            · obtain rfl : out = [] := List.eq_nil_of_length_eq_zero h0
              have tl := tail [c] (by simp <;> omega) hput2
              (conv => whnf) <;> repeat' (first | ((first | refine wN ?_ | refine wNc ?_ | refine wA ?_ | refine wB ?_ | refine wC ?_ | refine wD ?_ | refine vA ?_ | refine vB ?_ | refine vC ?_ | refine vD ?_ | refine uA ?_ | refine uB ?_ | refine uC ?_ | refine uD ?_); conv => whnf) | ((first | apply Pick.dec | apply Pick.beq | apply Cond.dec | apply Cond.beq | apply Cond.nd | apply Pick.nd | apply Pick.mk | apply Cond.mk) <;> intro h <;> conv => whnf))
              all_goals exact Holds.lendL (enc := cK) (l := [c]) 1 4 rfl rfl (insG0_ext (sz := 2) (enc := cK) (l := []) rfl) (Holds.gc [0] [false, true, true] rfl tl)
            · have tl := tail (out.take out.length ++ c :: out.drop out.length) (by simp <;> omega) hput2
              have hx := insG_ext (sz := 2) (enc := cK) (n := c) (l := out) rfl (Nat.le_refl _)
              cases out with
              | nil => cases h0
              | cons x0 r0 =>
                have hl' : r0.length + 1 ≤ 1048576 := by simp at hb; omega
                (conv => whnf) <;> repeat' (first | ((first | refine wN ?_ | refine wNc ?_ | refine wA ?_ | refine wB ?_ | refine wC ?_ | refine wD ?_ | refine vA ?_ | refine vB ?_ | refine vC ?_ | refine vD ?_ | refine uA ?_ | refine uB ?_ | refine uC ?_ | refine uD ?_); conv => whnf) | ((first | apply Pick.dec | apply Pick.beq | apply Cond.dec | apply Cond.beq | apply Cond.nd | apply Pick.nd | apply Pick.mk | apply Cond.mk) <;> intro h <;> conv => whnf))
                all_goals exact Holds.lendL (enc := cK) 1 5 rfl rfl hx (Holds.gc [0] [false, true, true] rfl tl)
        | succ d im =>
          intro j hj
          have hjl : j < out.length := by omega
          have gk : getL cK out (Int.toNat (j : Int)) = cK out[j] := by rw [Int.toNat_natCast]; exact getL_at (List.getElem?_eq_getElem hjl)
          have e1 : IntKind.i64.wrap ((j : Int) + 1) = ((j + 1 : Nat) : Int) := by rw [wi64_id (by omega) (by omega)]; omega
          have h1 := hL out[j]
          rw [hlt j hjl (by omega)] at h1
          have im := im (j + 1) (by omega)
          generalize out[j] = x at *
          apply js
          (conv => whnf) <;> repeat' (first | ((conv => arg 1; whnf); rw [gk]; conv => whnf) | ((first | refine wN ?_ | refine wNc ?_ | refine wA ?_ | refine wB ?_ | refine wC ?_ | refine wD ?_ | refine Called.mk _ _ (h1) ?_ | refine vA ?_ | refine vB ?_ | refine vC ?_ | refine vD ?_ | refine uA ?_ | refine uB ?_ | refine uC ?_ | refine uD ?_); conv => whnf) | ((first | apply Pick.dec | apply Pick.beq | apply Cond.dec | apply Cond.beq | apply Cond.nd | apply Pick.nd | apply Pick.mk | apply Cond.mk) <;> intro h <;> conv => whnf))
          all_goals (rw [e1]; apply jw [0, 1] [false, true, true, false, false, true, true] _ _ rfl; exact im)
      apply jw [0, 1] [false, true, true, false, false, true, true] _ _ rfl
      exact key q 0 (by omega)
    · have tl := tail out (by omega) (if_neg hk)
      refine .of_wp (R := atCalls) tok mixed ?_
      (conv => whnf) <;> repeat' (first | ((first | refine wN ?_ | refine wNc ?_ | refine wA ?_ | refine wB ?_ | refine wC ?_ | refine wD ?_ | refine vA ?_ | refine vB ?_ | refine vC ?_ | refine vD ?_ | refine uA ?_ | refine uB ?_ | refine uC ?_ | refine uD ?_); conv => whnf) | ((first | apply Pick.dec | apply Pick.beq | apply Cond.dec | apply Cond.beq | apply Cond.nd | apply Pick.nd | apply Pick.mk | apply Cond.mk) <;> intro h <;> conv => whnf))
      exact Holds.gc [0] [false, true, true] rfl tl
theorem rCols_ret (x : Xp) (hx : x.Wf) (hc : cntX x ≤ 1048576) : Ret Tryz.prog 26 [eE x] [] (eL 2 cK (walkF colR x [])) [] := by
  have h := rcols_ret x hx [] (by simpa using hc)
  generalize walkF colR x [] = out at *
  have h1 : Ret Tryz.prog 70 [eE x, .nils] [] (eL 2 cK out) [] := h.le (.cons (.refl _) (.cons le_nils .nil))
  obtain ⟨k, o, n, s, v, sc, p, l⟩ := x
  rw [cE_mk] at h1 ⊢
  refine ret_of_body atCalls tok mixed Tryz.func26 (by kernel_rfl) rfl (k := 5) (rs := [.tmp 2]) (by kernel_rfl) (by kernel_rfl) ?_
  (conv => whnf) <;> repeat' (first | ((first | refine wN ?_ | refine wNc ?_ | refine wA ?_ | refine wB ?_ | refine wC ?_ | refine wD ?_ | refine Called.mk _ _ (h1) ?_ | refine vA ?_ | refine vB ?_ | refine vC ?_ | refine vD ?_ | refine uA ?_ | refine uB ?_ | refine uC ?_ | refine uD ?_); conv => whnf) | ((first | apply Pick.dec | apply Pick.beq | apply Cond.dec | apply Cond.beq | apply Cond.nd | apply Pick.nd | apply Pick.mk | apply Cond.mk) <;> intro h <;> conv => whnf))
  exact End.mk rfl rfl
end Go.Proofs.YtlbocjcponegcaaGreat

set_option linter.unusedVariables false
set_option linter.unusedSimpArgs false
set_option maxRecDepth 100000
namespace Go.Proofs.YtlbocjcponegcaaGreat
open Go.AM
theorem equalN_ret (l : List ByteArray) (hl : l.length ≤ 1048576) : Ret Tryz.prog 21 [eL 1 cN l, eL 1 cN l] [] (.bool true) [] := by
  have f8 : ((l.length : Int) != (l.length : Int)) = false := by simp
  refine ret_of_body atNone tok mixed Tryz.func21 (by kernel_rfl) rfl (k := 26) (rs := [.tmp 4]) (by kernel_rfl) (by kernel_rfl) ?_
  (conv => whnf) <;> repeat' (first | ((first | refine wN ?_ | refine wNc ?_ | refine wA ?_ | refine wB ?_ | refine wC ?_ | refine wD ?_ | refine vA ?_ | refine vB ?_ | refine vC ?_ | refine vD ?_ | refine uA ?_ | refine uB ?_ | refine uC ?_ | refine uD ?_); conv => whnf) | ((first | apply Pick.dec | apply Pick.beq | apply Cond.dec | apply Cond.beq | apply Cond.nd | apply Pick.nd | apply Pick.mk | apply Cond.mk) <;> intro h <;> conv => whnf))
  intro J jw js
  have key : ∀ (d k : Nat), k + d = l.length → J [eL 1 cN l, eL 1 cN l, .und, .und, .bool false, .und, .und, .und, .und, .und, .und, .und, .int .i64 (l.length : Int), .int .i64 (k : Int), .und, .und, .und, .und, .und, .und, .und, .und, .und, .und, .und, .und] [] := by
    intro d
    induction d with
    | zero =>
      intro k hk
      apply js
      conv => whnf
      refine Cond.ff (decF (by omega)) ?_
      (conv => whnf) <;> repeat' (first | ((first | refine wN ?_ | refine wNc ?_ | refine wA ?_ | refine wB ?_ | refine wC ?_ | refine wD ?_ | refine vA ?_ | refine vB ?_ | refine vC ?_ | refine vD ?_ | refine uA ?_ | refine uB ?_ | refine uC ?_ | refine uD ?_); conv => whnf) | ((first | apply Pick.dec | apply Pick.beq | apply Cond.dec | apply Cond.beq | apply Cond.nd | apply Pick.nd | apply Pick.mk | apply Cond.mk) <;> intro h <;> conv => whnf))
      exact End.mk rfl rfl
    | succ d ih =>
      intro k hk
      have hkl : k < l.length := by omega
      have g1 : getL cN l (Int.toNat (k : Int)) = cN l[k] := by rw [Int.toNat_natCast]; exact getL_at (List.getElem?_eq_getElem hkl)
      have e2 : IntKind.i64.wrap ((k : Int) + 1) = ((k + 1 : Nat) : Int) := by rw [wi64_id (by omega) (by omega)]; omega
      generalize l[k] = w at *
      have f1 : (w.toList == w.toList) = true := by simp
      apply js
      conv => whnf
      refine Cond.tt (decT (by omega)) ?_
      (conv => whnf) <;> repeat' (first | ((conv => arg 1; whnf); rw [g1]; conv => whnf) | (rw [f1]; conv => whnf) | ((first | refine wN ?_ | refine wNc ?_ | refine wA ?_ | refine wB ?_ | refine wC ?_ | refine wD ?_ | refine vA ?_ | refine vB ?_ | refine vC ?_ | refine vD ?_ | refine uA ?_ | refine uB ?_ | refine uC ?_ | refine uD ?_); conv => whnf) | ((first | apply Pick.dec | apply Pick.beq | apply Cond.dec | apply Cond.beq | apply Cond.nd | apply Pick.nd | apply Pick.mk | apply Cond.mk) <;> intro h <;> conv => whnf))
      rw [e2]
      apply jw [] [true, true, false, false, true, false, false, false, false, false, false, false, true, true] _ _ (by decide)
      exact ih (k + 1) (by omega)
  apply jw [] [true, true, false, false, true, false, false, false, false, false, false, false, true, true] _ _ (by decide)
  exact key l.length 0 (by omega)
theorem equalC_ret (l : List CK) (hl : l.length ≤ 1048576) : Ret Tryz.prog 24 [eL 2 cK l, eL 2 cK l] [] (.bool true) [] := by
  have f8 : ((l.length : Int) != (l.length : Int)) = false := by simp
  refine ret_of_body atNone tok mixed Tryz.func24 (by kernel_rfl) rfl (k := 26) (rs := [.tmp 4]) (by kernel_rfl) (by kernel_rfl) ?_
  (conv => whnf) <;> repeat' (first | ((first | refine wN ?_ | refine wNc ?_ | refine wA ?_ | refine wB ?_ | refine wC ?_ | refine wD ?_ | refine vA ?_ | refine vB ?_ | refine vC ?_ | refine vD ?_ | refine uA ?_ | refine uB ?_ | refine uC ?_ | refine uD ?_); conv => whnf) | ((first | apply Pick.dec | apply Pick.beq | apply Cond.dec | apply Cond.beq | apply Cond.nd | apply Pick.nd | apply Pick.mk | apply Cond.mk) <;> intro h <;> conv => whnf))
  intro J jw js
  have key : ∀ (d k : Nat), k + d = l.length → J [eL 2 cK l, eL 2 cK l, .und, .und, .bool false, .und, .und, .und, .und, .und, .und, .und, .int .i64 (l.length : Int), .int .i64 (k : Int), .und, .und, .und, .und, .und, .und, .und, .und, .und, .und, .und, .und] [] := by
    intro d
    induction d with
    | zero =>
      intro k hk
      apply js
      conv => whnf
      refine Cond.ff (decF (by omega)) ?_
      (conv => whnf) <;> repeat' (first | ((first | refine wN ?_ | refine wNc ?_ | refine wA ?_ | refine wB ?_ | refine wC ?_ | refine wD ?_ | refine vA ?_ | refine vB ?_ | refine vC ?_ | refine vD ?_ | refine uA ?_ | refine uB ?_ | refine uC ?_ | refine uD ?_); conv => whnf) | ((first | apply Pick.dec | apply Pick.beq | apply Cond.dec | apply Cond.beq | apply Cond.nd | apply Pick.nd | apply Pick.mk | apply Cond.mk) <;> intro h <;> conv => whnf))
      exact End.mk rfl rfl
    | succ d ih =>
      intro k hk
      have hkl : k < l.length := by omega
      have g1 : getL cK l (Int.toNat (k : Int)) = cK l[k] := by rw [Int.toNat_natCast]; exact getL_at (List.getElem?_eq_getElem hkl)
      have e2 : IntKind.i64.wrap ((k : Int) + 1) = ((k + 1 : Nat) : Int) := by rw [wi64_id (by omega) (by omega)]; omega
      generalize l[k] = w at *
      have f1 : ((w.1.toList == w.1.toList) && ((w.2.toList == w.2.toList) && true)) = true := by simp
      apply js
      conv => whnf
      refine Cond.tt (decT (by omega)) ?_
      (conv => whnf) <;> repeat' (first | ((conv => arg 1; whnf); rw [g1]; conv => whnf) | (rw [f1]; conv => whnf) | ((first | refine wN ?_ | refine wNc ?_ | refine wA ?_ | refine wB ?_ | refine wC ?_ | refine wD ?_ | refine vA ?_ | refine vB ?_ | refine vC ?_ | refine vD ?_ | refine uA ?_ | refine uB ?_ | refine uC ?_ | refine uD ?_); conv => whnf) | ((first | apply Pick.dec | apply Pick.beq | apply Cond.dec | apply Cond.beq | apply Cond.nd | apply Pick.nd | apply Pick.mk | apply Cond.mk) <;> intro h <;> conv => whnf))
      rw [e2]
      apply jw [] [true, true, false, false, true, false, false, false, false, false, false, false, true, true] _ _ (by decide)
      exact ih (k + 1) (by omega)
  apply jw [] [true, true, false, false, true, false, false, false, false, false, false, false, true, true] _ _ (by decide)
  exact key l.length 0 (by omega)
set_option maxHeartbeats 4000000 in
theorem freads_of (hlive : Ret Tryz.prog 11 [] [] (.bool true) []) (x : Xp) (hx : x.Wf) (hc : cntX x ≤ 1048576) : Ret Tryz.prog 8 [eE x] [] (.bool true) [] := by
  have hF := ffits_ret x hx
  have n1 := fnames2_ret x hx hc
  have n2 := rNames_ret x hx hc
  have n3 := equalN_ret (walkF nameR x []) (by have := nameR_len x []; simp at this; omega)
  have c1 := fcols_ret x hx hc
  have c2 := rCols_ret x hx hc
  have c3 := equalC_ret (walkF colR x []) (by have := colR_len x []; simp at this; omega)
  have d1 := fnodes2_ret x hx hc
  have d2 := rNodes_ret x hx hc
  have f1 : ((cntX x : Int) == (cntX x : Int)) = true := by simp
  generalize walkF nameR x [] = ns at *
  generalize walkF colR x [] = cs at *
  generalize (cntX x : Int) = m at *
  by_cases h : sizeE 60 x ≤ 2000
  · rw [decT h] at hF
    obtain ⟨k, o, n, s, v, sc, p, l⟩ := x
    rw [cE_mk] at *
    refine ret_of_body atCalls tok mixed Tryz.func8 (by kernel_rfl) rfl (k := 30) (rs := [.tmp 2]) (by kernel_rfl) (by kernel_rfl) ?_
    (conv => whnf) <;> repeat' (first | (rw [f1]; conv => whnf) | ((first | refine wN ?_ | refine wNc ?_ | refine wA ?_ | refine wB ?_ | refine wC ?_ | refine wD ?_ | refine Called.mk _ _ (hF) ?_ | refine Called.mk _ _ (hlive) ?_ | refine Called.mk _ _ (n1) ?_ | refine Called.mk _ _ (n2) ?_ | refine Called.mk _ _ (n3) ?_ | refine Called.mk _ _ (c1) ?_ | refine Called.mk _ _ (c2) ?_ | refine Called.mk _ _ (c3) ?_ | refine Called.mk _ _ (d1) ?_ | refine Called.mk _ _ (d2) ?_ | refine vA ?_ | refine vB ?_ | refine vC ?_ | refine vD ?_ | refine uA ?_ | refine uB ?_ | refine uC ?_ | refine uD ?_); conv => whnf) | ((first | apply Pick.dec | apply Pick.beq | apply Cond.dec | apply Cond.beq | apply Cond.nd | apply Pick.nd | apply Pick.mk | apply Cond.mk) <;> intro h <;> conv => whnf))
    all_goals exact End.mk rfl rfl
  · rw [decF h] at hF
    obtain ⟨k, o, n, s, v, sc, p, l⟩ := x
    rw [cE_mk] at *
    refine ret_of_body atCalls tok mixed Tryz.func8 (by kernel_rfl) rfl (k := 30) (rs := [.tmp 2]) (by kernel_rfl) (by kernel_rfl) ?_
    (conv => whnf) <;> repeat' (first | ((first | refine wN ?_ | refine wNc ?_ | refine wA ?_ | refine wB ?_ | refine wC ?_ | refine wD ?_ | refine Called.mk _ _ (hF) ?_ | refine Called.mk _ _ (hlive) ?_ | refine vA ?_ | refine vB ?_ | refine vC ?_ | refine vD ?_ | refine uA ?_ | refine uB ?_ | refine uC ?_ | refine uD ?_); conv => whnf) | ((first | apply Pick.dec | apply Pick.beq | apply Cond.dec | apply Cond.beq | apply Cond.nd | apply Pick.nd | apply Pick.mk | apply Cond.mk) <;> intro h <;> conv => whnf))
    exact End.mk rfl rfl
end Go.Proofs.YtlbocjcponegcaaGreat

