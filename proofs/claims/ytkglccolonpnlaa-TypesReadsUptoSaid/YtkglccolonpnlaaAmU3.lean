/- exciseref10.Reads. -/
import Derived.Test.YtkglccolonpnlaaAmU2
set_option linter.unusedVariables false
set_option linter.unusedSimpArgs false
set_option maxRecDepth 100000
namespace Go.Proofs.Ytkglccolonpnlaa
open Go.AM
set_option maxHeartbeats 16000000 in
theorem rreads_row (k o : Int) (n s : ByteArray) (v : Vl) (sc p : Int) (l : List Xp) (hlen : l.length ≤ maxLen) (own : List Re) (hown : ownR (.mk k o n s v sc p l) = own) (ho : own = [] ∨ ∃ r, own = [r])
    (hb : 1 + cntL l ≤ 1048576) (ih : ∀ y ∈ l, Ret Try.prog 24 [eE y] [] (eL 2 cRe (walkF readF y [])) []) :
    (walkL readR l own = [] → Ret Try.prog 24 [eE (.mk k o n s v sc p l)] [] .nils []) ∧
    (walkL readR l own ≠ [] → Ret Try.prog 24 [eE (.mk k o n s v sc p l)] [] (.row 0 (walkL readR l own).length) [.row 53 2 (walkL readR l own).length (gR (walkL readR l own)) (prR l own l.length)]) := by
  have hm : maxLen ≤ 9223372036854775807 := by decide
  have hown1 : own.length ≤ 1 := by rcases ho with rfl | ⟨r, rfl⟩ <;> simp
  -- the loops, from the state at an argument's begin
  have goal : ∀ (vt : Val) (ht : List Blk), (walkL readR l own = [] → vt = .nils ∧ ht = []) → (walkL readR l own ≠ [] → vt = .row 0 (walkL readR l own).length ∧ ht = [.row 53 2 (walkL readR l own).length (gR (walkL readR l own)) (prR l own l.length)]) →
      Ret Try.prog 24 [eE (.mk k o n s v sc p l)] [] vt ht := by
    intro vt ht hv0 hv1
    rw [cE_mk]
    have kinds : (own = [] ∧ k ≠ 2 ∧ k ≠ 10) ∨ (own = [(ByteArray.empty, n)] ∧ k = 2) ∨ (own = [(s, n)] ∧ k = 10) := by
      rw [← hown]
      by_cases k2 : k = 2
      · exact .inr (.inl ⟨by simp [ownR, Xp.kind, Xp.name, Xp.sect, k2], k2⟩)
      by_cases k10 : k = 10
      · exact .inr (.inr ⟨by simp [ownR, Xp.kind, Xp.name, Xp.sect, k10], k10⟩)
      · exact .inl ⟨by simp [ownR, Xp.kind, Xp.name, Xp.sect, k2, k10], k2, k10⟩
    rcases kinds with ⟨e0, k2, k10⟩ | ⟨e0, k2⟩ | ⟨e0, k10⟩
    all_goals
      refine ret_of_body atCalls tok mixed Try.func24 (by kernel_rfl) rfl (k := 76) (rs := [.tmp 2]) (by kernel_rfl) (by kernel_rfl) ?_
      (conv => whnf) <;> repeat' (first | ((first | refine wN ?_ | refine wA ?_ | refine wB ?_ | refine wC ?_ | refine wD ?_ | refine vA ?_ | refine vB ?_ | refine vC ?_ | refine vD ?_ | refine uA ?_ | refine uB ?_ | refine uC ?_ | refine uD ?_); conv => whnf) | ((first | apply Pick.dec | apply Pick.beq | apply Cond.dec | apply Cond.beq | apply Cond.nd | apply Pick.nd | apply Pick.mk | apply Cond.mk) <;> intro h <;> conv => whnf))
      intro I hw hs
      have turn : ∀ (d i : Nat), i + d = l.length →
          (walkL readR (l.take i) own = [] → I [.und, .ptr 0 0, .und, .nils, .int .i64 (i : Int), .und, .und, .und, .und, .und, .und, .und, .und, .und, .und, .und, .und, .und, .und, .und, .und, .und, .und, .und, .und, .und, .und, .und, .und, .und, .und, .und, .und, .und, .und, .und, .und, .und, .und, .und, .und, .und, .und, .und, .und, .und, .und, .und, .und, .und, .und, .und, .und, .und, .und, .und, .und, .und, .und, .und, .und, .und, .und, .und, .und, .und, .und, .und, .und, .und, .und, .und, .und, .und, .und, .und] [.cells (hdX k o n s v sc p ++ [.ext 17 l.length (Xp.rows l)])]) ∧
          (walkL readR (l.take i) own ≠ [] → I [.und, .ptr 0 0, .und, .row 1 (walkL readR (l.take i) own).length, .int .i64 (i : Int), .und, .und, .und, .und, .und, .und, .und, .und, .und, .und, .und, .und, .und, .und, .und, .und, .und, .und, .und, .und, .und, .und, .und, .und, .und, .und, .und, .und, .und, .und, .und, .und, .und, .und, .und, .und, .und, .und, .und, .und, .und, .und, .und, .und, .und, .und, .und, .und, .und, .und, .und, .und, .und, .und, .und, .und, .und, .und, .und, .und, .und, .und, .und, .und, .und, .und, .und, .und, .und, .und, .und] [.cells (hdX k o n s v sc p ++ [.ext 17 l.length (Xp.rows l)]), .row 53 2 (walkL readR (l.take i) own).length (gR (walkL readR (l.take i) own)) (prR l own i)]) := by
        intro d
        induction d with
        | zero =>
          intro i hi
          obtain rfl : i = l.length := by omega
          rw [List.take_length]
          refine ⟨fun hr => ?_, fun hr => ?_⟩
          · obtain ⟨rfl, rfl⟩ := hv0 hr
            apply hs
            conv => whnf
            refine Cond.ff (decF (by omega)) ?_
            (conv => whnf) <;> repeat' (first | ((first | refine wN ?_ | refine wA ?_ | refine wB ?_ | refine wC ?_ | refine wD ?_ | refine vA ?_ | refine vB ?_ | refine vC ?_ | refine vD ?_ | refine uA ?_ | refine uB ?_ | refine uC ?_ | refine uD ?_); conv => whnf) | ((first | apply Pick.dec | apply Pick.beq | apply Cond.dec | apply Cond.beq | apply Cond.nd | apply Pick.nd | apply Pick.mk | apply Cond.mk) <;> intro h <;> conv => whnf))
            exact End.mk rfl rfl
          · obtain ⟨rfl, rfl⟩ := hv1 hr
            apply hs
            conv => whnf
            refine Cond.ff (decF (by omega)) ?_
            (conv => whnf) <;> repeat' (first | ((first | refine wN ?_ | refine wA ?_ | refine wB ?_ | refine wC ?_ | refine wD ?_ | refine vA ?_ | refine vB ?_ | refine vC ?_ | refine vD ?_ | refine uA ?_ | refine uB ?_ | refine uC ?_ | refine uD ?_); conv => whnf) | ((first | apply Pick.dec | apply Pick.beq | apply Cond.dec | apply Cond.beq | apply Cond.nd | apply Pick.nd | apply Pick.mk | apply Cond.mk) <;> intro h <;> conv => whnf))
            exact EndH.mk [1] rfl rfl rfl
        | succ d im =>
          intro i hi
          have hil : i < l.length := by omega
          have gk : Xp.rows l (Int.toNat (i : Int)) = cE l[i] := by rw [Int.toNat_natCast]; exact (Xp.rows_ext l).2 i hil
          have e1 : IntKind.i64.wrap ((i : Int) + 1) = ((i + 1 : Nat) : Int) := by rw [wi64_id (by omega) (by omega)]; omega
          have hc := ih l[i] (List.getElem_mem hil)
          have hnext := im (i + 1) (by omega)
          have hlen1 := (walkL_len' (l.take i) own).2.1
          have hlen2 := (walkL_len' (l.take (i + 1)) own)
          have hcnt : cntL (l.take (i + 1)) ≤ cntL l := by
            have : ∀ (q : List Xp) (j : Nat), cntL (q.take j) ≤ cntL q := by
              intro q
              induction q with
              | nil => intro j; simp
              | cons a q iq => intro j; cases j with
                | zero => rw [List.take_zero, cntL_nil]; omega
                | succ j => rw [List.take_succ_cons, cntL_cons, cntL_cons]; have := iq j; omega
            exact this l (i + 1)
          have hml : (walkF readF l[i] []).length ≤ 1048576 := by
            have h1 := walkF_rev l[i] []
            have h2 := (walkF_len l[i] []).2.1
            have h3 := (mem_cnt (List.getElem_mem hil)).1
            rw [List.reverse_nil] at h1
            rw [← h1, List.length_reverse]
            simp only [List.length_nil, Nat.zero_add] at h2
            omega
          rw [take_walk hil, ← walk_fold] at hnext hlen2
          have hpn : prR l own (i + 1) = (walkL readR (l.take i) own).length := rfl
          rw [hpn] at hnext
          generalize walkL readR (l.take i) own = rl at *
          generalize walkF readF l[i] [] = m at *
          generalize l[i] = y at *
          have mono : ∀ (q : List Re) (r : List Re), r.length ≤ (q.foldl insR r).length := by
            intro q
            induction q with
            | nil => intro r; exact Nat.le_refl _
            | cons a q iq => intro r; have := (insR_len r a).1; have := iq (insR r a); rw [List.foldl_cons]; omega
          have room : ∀ j, j ≤ m.length → rl.length ≤ ((m.take j).foldl insR rl).length ∧ ((m.take j).foldl insR rl).length ≤ 1048576 := by
            intro j hj
            have h1 := mono (m.drop j) ((m.take j).foldl insR rl)
            rw [← List.foldl_append, List.take_append_drop] at h1
            exact ⟨mono _ _, by omega⟩
          refine ⟨fun hr => ?_, fun hr => ?_⟩
          all_goals
            apply hs
            conv => whnf
            refine Cond.tt (decT (by omega)) ?_
            (conv => whnf) <;> repeat' (first | ((conv => arg 1; whnf); rw [gk]; conv => whnf) | ((first | refine wN ?_ | refine wA ?_ | refine wB ?_ | refine wC ?_ | refine wD ?_ | refine Called.mk _ _ (hc) ?_ | refine vA ?_ | refine vB ?_ | refine vC ?_ | refine vD ?_ | refine uA ?_ | refine uB ?_ | refine uC ?_ | refine uD ?_); conv => whnf) | ((first | apply Pick.dec | apply Pick.beq | apply Cond.dec | apply Cond.beq | apply Cond.nd | apply Pick.nd | apply Pick.mk | apply Cond.mk) <;> intro h <;> conv => whnf))
            intro J jw js
            have mid : ∀ (e q : Nat), q + e = m.length →
                ((m.take q).foldl insR rl = [] → J [.und, .ptr 0 0, .und, .nils, .int .i64 (i : Int), eL 2 cRe m, .int .i64 (q : Int), .und, .und, .und, .und, .und, .und, .und, .und, .und, .und, .und, .und, .und, .und, .und, .und, .und, .und, .und, .und, .und, .und, .und, .und, .und, .und, .und, .und, .und, .und, .und, .und, .und, .und, .und, .und, .und, .und, .und, .und, .und, .und, .und, .und, .und, .und, .und, .und, .und, .und, .und, .und, .und, .und, .und, .und, .und, .und, .und, .und, .und, .und, .und, .und, .und, .und, .und, .und, .und] [.cells (hdX k o n s v sc p ++ [.ext 17 l.length (Xp.rows l)])]) ∧
                ((m.take q).foldl insR rl ≠ [] → J [.und, .ptr 0 0, .und, .row 1 ((m.take q).foldl insR rl).length, .int .i64 (i : Int), eL 2 cRe m, .int .i64 (q : Int), .und, .und, .und, .und, .und, .und, .und, .und, .und, .und, .und, .und, .und, .und, .und, .und, .und, .und, .und, .und, .und, .und, .und, .und, .und, .und, .und, .und, .und, .und, .und, .und, .und, .und, .und, .und, .und, .und, .und, .und, .und, .und, .und, .und, .und, .und, .und, .und, .und, .und, .und, .und, .und, .und, .und, .und, .und, .und, .und, .und, .und, .und, .und, .und, .und, .und, .und, .und, .und] [.cells (hdX k o n s v sc p ++ [.ext 17 l.length (Xp.rows l)]), .row 53 2 ((m.take q).foldl insR rl).length (gR ((m.take q).foldl insR rl)) rl.length]) := by
              intro e
              induction e with
              | zero =>
                intro q hq
                obtain rfl : q = m.length := by omega
                rw [List.take_length]
                refine ⟨fun h0 => ?_, fun h0 => ?_⟩
                · apply js
                  conv => whnf
                  refine Cond.ff (decF (by omega)) ?_
                  (conv => whnf) <;> repeat' (first | ((first | refine wN ?_ | refine wA ?_ | refine wB ?_ | refine wC ?_ | refine wD ?_ | refine vA ?_ | refine vB ?_ | refine vC ?_ | refine vD ?_ | refine uA ?_ | refine uB ?_ | refine uC ?_ | refine uD ?_); conv => whnf) | ((first | apply Pick.dec | apply Pick.beq | apply Cond.dec | apply Cond.beq | apply Cond.nd | apply Pick.nd | apply Pick.mk | apply Cond.mk) <;> intro h <;> conv => whnf))
                  rw [e1]
                  apply hw [0] [false, true, false, true, true] _ _ rfl
                  exact hnext.1 h0
                · apply js
                  conv => whnf
                  refine Cond.ff (decF (by omega)) ?_
                  (conv => whnf) <;> repeat' (first | ((first | refine wN ?_ | refine wA ?_ | refine wB ?_ | refine wC ?_ | refine wD ?_ | refine vA ?_ | refine vB ?_ | refine vC ?_ | refine vD ?_ | refine uA ?_ | refine uB ?_ | refine uC ?_ | refine uD ?_); conv => whnf) | ((first | apply Pick.dec | apply Pick.beq | apply Cond.dec | apply Cond.beq | apply Cond.nd | apply Pick.nd | apply Pick.mk | apply Cond.mk) <;> intro h <;> conv => whnf))
                  rw [e1]
                  apply hw [0, 1] [false, true, false, true, true] _ _ rfl
                  exact hnext.2 h0
              | succ e jm =>
                intro q hq
                have hqm : q < m.length := by omega
                have gk2 : getL cRe m (Int.toNat (q : Int)) = cRe m[q] := by rw [Int.toNat_natCast]; exact getL_at (List.getElem?_eq_getElem hqm)
                have e2 : IntKind.i64.wrap ((q : Int) + 1) = ((q + 1 : Nat) : Int) := by rw [wi64_id (by omega) (by omega)]; omega
                have nxt := jm (q + 1) (by omega)
                have rm := room q (by omega)
                have rm1 := room (q + 1) (by omega)
                rw [take_fold hqm] at nxt rm1
                generalize (m.take q).foldl insR rl = rk at *
                generalize m[q] = r at *
                refine ⟨fun h0 => ?_, fun h0 => ?_⟩
                · subst h0
                  have hz : rl.length = 0 := by have := rm.1; simpa using this
                  rw [insR_out (by simp), hz] at nxt
                  apply js
                  conv => whnf
                  refine Cond.tt (decT (by omega)) ?_
                  (conv => whnf) <;> repeat' (first | ((first | refine wN ?_ | refine wA ?_ | refine wB ?_ | refine wC ?_ | refine wD ?_ | refine vA ?_ | refine vB ?_ | refine vC ?_ | refine vD ?_ | refine uA ?_ | refine uB ?_ | refine uC ?_ | refine uD ?_); conv => whnf) | ((first | apply Pick.dec | apply Pick.beq | apply Cond.dec | apply Cond.beq | apply Cond.nd | apply Pick.nd | apply Pick.mk | apply Cond.mk) <;> intro h <;> conv => whnf))
                  intro K kw ks
                  apply ks
                  conv => whnf
                  refine Cond.ff rfl ?_
                  (conv => whnf) <;> repeat' (first | ((conv => arg 1; whnf); rw [gk2]; conv => whnf) | ((first | refine wN ?_ | refine wA ?_ | refine wB ?_ | refine wC ?_ | refine wD ?_ | refine vA ?_ | refine vB ?_ | refine vC ?_ | refine vD ?_ | refine uA ?_ | refine uB ?_ | refine uC ?_ | refine uD ?_); conv => whnf) | ((first | apply Pick.dec | apply Pick.beq | apply Cond.dec | apply Cond.beq | apply Cond.nd | apply Pick.nd | apply Pick.mk | apply Cond.mk) <;> intro h <;> conv => whnf))
                  rw [e2]
                  apply jw [0, 2] [false, true, false, true, true, true, true] _ _ rfl
                  exact nxt.2 (by simp)
                · apply js
                  conv => whnf
                  refine Cond.tt (decT (by omega)) ?_
                  (conv => whnf) <;> repeat' (first | ((first | refine wN ?_ | refine wA ?_ | refine wB ?_ | refine wC ?_ | refine wD ?_ | refine vA ?_ | refine vB ?_ | refine vC ?_ | refine vD ?_ | refine uA ?_ | refine uB ?_ | refine uC ?_ | refine uD ?_); conv => whnf) | ((first | apply Pick.dec | apply Pick.beq | apply Cond.dec | apply Cond.beq | apply Cond.nd | apply Pick.nd | apply Pick.mk | apply Cond.mk) <;> intro h <;> conv => whnf))
                  intro K kw ks
                  have inn : ∀ (f j : Nat) (h : Bool), j + f = rk.length → (h = true ↔ r ∈ rk.reverse.take j) →
                      K [.und, .ptr 0 0, .und, .row 1 rk.length, .int .i64 (i : Int), eL 2 cRe m, .int .i64 (q : Int), .bool h, .int .i64 (j : Int), .und, .und, .und, .und, .und, .und, .und, .und, .und, .und, .und, .und, .und, .und, .und, .und, .und, .und, .und, .und, .und, .und, .und, .und, .und, .und, .und, .und, .und, .und, .und, .und, .und, .und, .und, .und, .und, .und, .und, .und, .und, .und, .und, .und, .und, .und, .und, .und, .und, .und, .und, .und, .und, .und, .und, .und, .und, .und, .und, .und, .und, .und, .und, .und, .und, .und, .und] [.cells (hdX k o n s v sc p ++ [.ext 17 l.length (Xp.rows l)]), .row 53 2 rk.length (gR rk) rl.length] := by
                    intro f
                    induction f with
                    | zero =>
                      intro j h hj hh
                      rw [List.take_of_length_le (by simp; omega), List.mem_reverse] at hh
                      apply ks
                      conv => whnf
                      refine Cond.ff (decF (by omega)) ?_
                      cases h with
                      | true =>
                        rw [insR_in (hh.1 rfl)] at nxt
                        (conv => whnf) <;> repeat' (first | ((first | refine wN ?_ | refine wA ?_ | refine wB ?_ | refine wC ?_ | refine wD ?_ | refine vA ?_ | refine vB ?_ | refine vC ?_ | refine vD ?_ | refine uA ?_ | refine uB ?_ | refine uC ?_ | refine uD ?_); conv => whnf) | ((first | apply Pick.dec | apply Pick.beq | apply Cond.dec | apply Cond.beq | apply Cond.nd | apply Pick.nd | apply Pick.mk | apply Cond.mk) <;> intro h <;> conv => whnf))
                        rw [e2]
                        apply jw [0, 1] [false, true, false, true, true, true, true] _ _ rfl
                        exact nxt.2 h0
                      | false =>
                        have hni : r ∉ rk := fun k => by have := hh.2 k; cases this
                        rw [insR_out hni] at nxt rm1
                        have rm2 := rm1.2
                        rw [List.length_cons] at rm2
                        (conv => whnf) <;> repeat' (first | ((conv => arg 1; whnf); rw [gk2]; conv => whnf) | ((first | refine wN ?_ | refine wA ?_ | refine wB ?_ | refine wC ?_ | refine wD ?_ | refine vA ?_ | refine vB ?_ | refine vC ?_ | refine vD ?_ | refine uA ?_ | refine uB ?_ | refine uC ?_ | refine uD ?_); conv => whnf) | ((first | apply Pick.dec | apply Pick.beq | apply Cond.dec | apply Cond.beq | apply Cond.nd | apply Pick.nd | apply Pick.mk | apply Cond.mk) <;> intro h <;> conv => whnf))
                        rw [e2]
                        apply jw [0, 3] [false, true, false, true, true, true, true] _ _ rfl
                        obtain ⟨q0, t0, hq0⟩ : ∃ q t, rk = q :: t := by
                          cases rk with
                          | nil => exact absurd rfl h0
                          | cons q t => exact ⟨q, t, rfl⟩
                        subst hq0
                        exact nxt.2 (by simp)
                    | succ f fm =>
                      intro j h hj hh
                      have hjl : j < rk.reverse.length := by simp; omega
                      have gj : gR rk (Int.toNat (j : Int)) = cRe rk.reverse[j] := by rw [Int.toNat_natCast]; exact gR_at rk j hjl
                      have e3 : IntKind.i64.wrap ((j : Int) + 1) = ((j + 1 : Nat) : Int) := by rw [wi64_id (by omega) (by omega)]; omega
                      have hmt := mem_take (r := r) hjl
                      generalize rk.reverse[j] = w at *
                      apply ks
                      conv => whnf
                      refine Cond.tt (decT (by omega)) ?_
                      cases h with
                      | true =>
                        (conv => whnf) <;> repeat' (first | ((first | refine wN ?_ | refine wA ?_ | refine wB ?_ | refine wC ?_ | refine wD ?_ | refine vA ?_ | refine vB ?_ | refine vC ?_ | refine vD ?_ | refine uA ?_ | refine uB ?_ | refine uC ?_ | refine uD ?_); conv => whnf) | ((first | apply Pick.dec | apply Pick.beq | apply Cond.dec | apply Cond.beq | apply Cond.nd | apply Pick.nd | apply Pick.mk | apply Cond.mk) <;> intro h <;> conv => whnf))
                        rw [e3]
                        apply kw [0, 1] [false, true, false, true, true, true, true, true, true] _ _ rfl
                        exact fm (j + 1) true (by omega) (by rw [hmt]; exact ⟨fun _ => .inl (hh.1 rfl), fun _ => rfl⟩)
                      | false =>
                        (conv => whnf) <;> repeat' (first | ((conv => arg 1; whnf); rw [gj]; conv => whnf) | ((conv => arg 1; whnf); rw [gk2]; conv => whnf) | ((first | refine wN ?_ | refine wA ?_ | refine wB ?_ | refine wC ?_ | refine wD ?_ | refine vA ?_ | refine vB ?_ | refine vC ?_ | refine vD ?_ | refine uA ?_ | refine uB ?_ | refine uC ?_ | refine uD ?_); conv => whnf) | ((first | apply Pick.dec | apply Pick.beq | apply Cond.dec | apply Cond.beq | apply Cond.nd | apply Pick.nd | apply Pick.mk | apply Cond.mk) <;> intro h <;> conv => whnf))
                        rw [e3]
                        apply kw [0, 1] [false, true, false, true, true, true, true, true, true] _ _ rfl
                        refine fm (j + 1) _ (by omega) ?_
                        rw [hmt]
                        have hn : r ∉ rk.reverse.take j := fun k => by have := hh.2 k; cases this
                        have he := eqRe w r
                        show ((w.1.toList == r.1.toList) && ((w.2.toList == r.2.toList) && true)) = true ↔ _
                        rw [he, decide_eq_true_eq]
                        exact ⟨.inr, fun k => k.resolve_left hn⟩
                  apply kw [0, 1] [false, true, false, true, true, true, true, true, true] _ _ rfl
                  exact inn rk.length 0 false (by omega) (by simp)
            first
            | (apply jw [0, 1] [false, true, false, true, true, true, true] _ _ rfl; exact (mid m.length 0 (by omega)).2 hr)
            | (apply jw [0] [false, true, false, true, true, true, true] _ _ rfl; exact (mid m.length 0 (by omega)).1 hr)
      first
      | (apply hw [0, 2] [false, true, false, true, true] _ _ rfl; subst e0; exact (turn l.length 0 (by omega)).2 (by rw [List.take_zero, walkL_nil]; simp))
      | (apply hw [0] [false, true, false, true, true] _ _ rfl; subst e0; exact (turn l.length 0 (by omega)).1 (by rw [List.take_zero, walkL_nil]))
  refine ⟨fun h => goal _ _ (fun _ => ⟨rfl, rfl⟩) (fun h' => absurd h h'), fun h => goal _ _ (fun h' => absurd h' h) (fun _ => ⟨rfl, rfl⟩)⟩
end Go.Proofs.Ytkglccolonpnlaa

