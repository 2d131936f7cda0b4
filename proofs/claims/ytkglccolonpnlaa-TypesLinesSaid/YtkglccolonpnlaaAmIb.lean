/- Both Flats. -/
import Derived.Test.YtkglccolonpnlaaAmIa
import Derived.Test.YtkglccolonpnlaaAmHy
set_option linter.unusedVariables false
set_option linter.unusedSimpArgs false
set_option maxRecDepth 100000
namespace Go.Proofs.Ytkglccolonpnlaa
open Go.AM
theorem rflat_all (x : Sc) : x.Ok → FlQ x := by
  refine Sc.ind (Q := fun x => x.Ok → FlQ x) ?_ x
  clear x
  intro x ih hx
  obtain ⟨n, m, it, ks⟩ := x
  have ih : ∀ k ∈ ks, FlQ k := fun k hk => ih k hk (hx.kid hk)
  exact ⟨fun l par dep pr _ hl hg => rflat_S n m it ks l par dep pr hl hg, fun l par dep pr hne hg h0 => rflat_G n m it ks hx.kids1 ih l par dep pr hne hg h0, fun par dep h0 h1 => rflat_N n m it ks hx.kids1 ih par dep h0 h1⟩
theorem put_all (x : Sc) : x.Ok → PutQ x := by
  refine Sc.ind (Q := fun x => x.Ok → PutQ x) ?_ x
  clear x
  intro x ih hx
  obtain ⟨n, m, it, ks⟩ := x
  have ih : ∀ k ∈ ks, PutQ k := fun k hk => ih k hk (hx.kid hk)
  exact ⟨fun l par dep pr _ hl hg => put_S n m it ks l par dep pr hl hg, fun l par dep pr hne hg h0 => put_G n m it ks hx.kids1 hx.items2 ih l par dep pr hne hg h0, fun par dep h0 h1 => put_N n m it ks hx.kids1 hx.items2 ih par dep h0 h1⟩
theorem rFlat_ret (d : Df) (hd : d.Ok) : Ret Try.prog 19 [eDf d] [] (eL 5 cSe d.flat) [] := by
  have hc := (rflat_all d.root hd.root).2.2 (-1) 1 (by decide) (by decide)
  have hf : flatS d.root [] (-1) 1 = d.flat := rfl
  rw [hf] at hc
  generalize d.flat = l at *
  have h : Ret Try.prog 19 [eDf d] [] (.row 0 l.length) [.row 74 5 l.length (getL cSe l) l.length] := by
    refine ret_of_body atCalls tok mixed Try.func19 (by kernel_rfl) rfl (k := 6) (rs := [.tmp 2]) (by kernel_rfl) (by kernel_rfl) ?_
    (conv => whnf) <;> repeat' (first | ((first | refine wN ?_ | refine wA ?_ | refine wB ?_ | refine wC ?_ | refine wD ?_ | refine Called.mk _ _ (hc) ?_ | refine vA ?_ | refine vB ?_ | refine vC ?_ | refine vD ?_ | refine uA ?_ | refine uB ?_ | refine uC ?_ | refine uD ?_); conv => whnf) | ((first | apply Pick.dec | apply Pick.beq | apply Cond.dec | apply Cond.beq | apply Cond.nd | apply Pick.nd | apply Pick.mk | apply Cond.mk) <;> intro h <;> conv => whnf))
    exact EndH.mk [1] rfl rfl rfl
  exact h.lend ⟨rfl, Nat.le_refl _, Nat.le_refl _⟩ rfl
theorem flat_ret (d : Df) (hd : d.Ok) : Ret Try.prog 31 [eDf d] [] (eL 5 cSe d.flat) [] := by
  have hc := (put_all d.root hd.root).2.2 (-1) 1 (by decide) (by decide)
  have hf : flatS d.root [] (-1) 1 = d.flat := rfl
  rw [hf] at hc
  generalize d.flat = l at *
  have h : Ret Try.prog 31 [eDf d] [] (.row 0 l.length) [.row 74 5 l.length (getL cSe l) l.length] := by
    refine ret_of_body atCalls tok mixed Try.func31 (by kernel_rfl) rfl (k := 11) (rs := [.tmp 2]) (by kernel_rfl) (by kernel_rfl) ?_
    (conv => whnf) <;> repeat' (first | (refine CalledH.mk [1, 2] _ _ rfl (by simp) hc ?_; conv => whnf) | ((first | refine wN ?_ | refine wA ?_ | refine wB ?_ | refine wC ?_ | refine wD ?_ | refine vA ?_ | refine vB ?_ | refine vC ?_ | refine vD ?_ | refine uA ?_ | refine uB ?_ | refine uC ?_ | refine uD ?_); conv => whnf) | ((first | apply Pick.dec | apply Pick.beq | apply Cond.dec | apply Cond.beq | apply Cond.nd | apply Pick.nd | apply Pick.mk | apply Cond.mk) <;> intro h <;> conv => whnf))
    exact EndH.mk [3] rfl rfl rfl
  exact h.lend ⟨rfl, Nat.le_refl _, Nat.le_refl _⟩ rfl
end Go.Proofs.Ytkglccolonpnlaa

set_option linter.unusedVariables false
set_option linter.unusedSimpArgs false
set_option maxRecDepth 100000
namespace Go.Proofs.Ytkglccolonpnlaa
open Go.AM
theorem Kind_ret (d : Df) (hd : d.Ok) (s : Int) (x : Xp) (hx : x.Wf) (hL : x.Lens) : Ret Try.prog 14 [eDf d, .int .i64 s, eE x] [] (.tup [.int .i64 (kindK d s x).1, .int .i64 (kindK d s x).2]) [] := by
  have hF := flat_ret d hd
  have hN := nodes_ret x hx
  have hlen := d.flat_len
  have hK := kind_ret d d.flat s hlen (fun x hx => (hd.flat x hx).1) hd.tabs x hx hL
  unfold kindK
  generalize d.flat = l at *
  generalize kindF d.tabs l s x = q at *
  generalize nodesF x = nn at *
  obtain ⟨k, o, n, sc, v, sca, p, a⟩ := x
  rw [cE_mk] at hN hK ⊢
  by_cases h0 : s < 0 ∨ (l.length : Int) ≤ s
  · rw [if_pos h0]
    refine ret_of_body atCalls tok mixed Try.func14 (by kernel_rfl) rfl (k := 31) (rs := [.tmp 6, .tmp 7]) (by kernel_rfl) (by kernel_rfl) ?_
    (conv => whnf) <;> repeat' (first | ((first | refine wN ?_ | refine wA ?_ | refine wB ?_ | refine wC ?_ | refine wD ?_ | refine Called.mk _ _ (hF) ?_ | refine vA ?_ | refine vB ?_ | refine vC ?_ | refine vD ?_ | refine uA ?_ | refine uB ?_ | refine uC ?_ | refine uD ?_); conv => whnf) | ((first | apply Pick.dec | apply Pick.beq | apply Cond.dec | apply Cond.beq | apply Cond.nd | apply Pick.nd | apply Pick.mk | apply Cond.mk) <;> intro h <;> conv => whnf))
    all_goals exact End.mk rfl rfl
  · rw [if_neg h0]
    by_cases h1 : 64 < nn
    · rw [if_pos h1]
      refine ret_of_body atCalls tok mixed Try.func14 (by kernel_rfl) rfl (k := 31) (rs := [.tmp 6, .tmp 7]) (by kernel_rfl) (by kernel_rfl) ?_
      (conv => whnf) <;> repeat' (first | ((first | refine wN ?_ | refine wA ?_ | refine wB ?_ | refine wC ?_ | refine wD ?_ | refine Called.mk _ _ (hF) ?_ | refine Called.mk _ _ (hN) ?_ | refine vA ?_ | refine vB ?_ | refine vC ?_ | refine vD ?_ | refine uA ?_ | refine uB ?_ | refine uC ?_ | refine uD ?_); conv => whnf) | ((first | apply Pick.dec | apply Pick.beq | apply Cond.dec | apply Cond.beq | apply Cond.nd | apply Pick.nd | apply Pick.mk | apply Cond.mk) <;> intro h <;> conv => whnf))
      exact End.mk rfl rfl
    · rw [if_neg h1]
      refine ret_of_body atCalls tok mixed Try.func14 (by kernel_rfl) rfl (k := 31) (rs := [.tmp 6, .tmp 7]) (by kernel_rfl) (by kernel_rfl) ?_
      (conv => whnf) <;> repeat' (first | ((first | refine wN ?_ | refine wA ?_ | refine wB ?_ | refine wC ?_ | refine wD ?_ | refine Called.mk _ _ (hF) ?_ | refine Called.mk _ _ (hN) ?_ | refine Called.mk _ _ (hK) ?_ | refine vA ?_ | refine vB ?_ | refine vC ?_ | refine vD ?_ | refine uA ?_ | refine uB ?_ | refine uC ?_ | refine uD ?_); conv => whnf) | ((first | apply Pick.dec | apply Pick.beq | apply Cond.dec | apply Cond.beq | apply Cond.nd | apply Pick.nd | apply Pick.mk | apply Cond.mk) <;> intro h <;> conv => whnf))
      exact End.mk rfl rfl
theorem suits_ret (d : Df) (hd : d.Ok) (s : Int) (x : Xp) (hx : x.Wf) (hL : x.Lens) (k : Int) : Ret Try.prog 41 [eDf d, .int .i64 s, eE x, .int .i64 k] [] (.int .i64 (suitsF d s x k)) [] := by
  have hK := Kind_ret d hd s x hx hL
  unfold suitsF
  generalize kindK d s x = q at *
  obtain ⟨q1, q2⟩ := q
  obtain ⟨k', o, n, sc, v, sca, p, a⟩ := x
  rw [cE_mk] at hK ⊢
  simp only at hK ⊢
  by_cases h0 : q2 = 0
  · rw [if_neg (by simpa using h0)]
    by_cases h1 : q1 = k
    · rw [if_neg (by simpa using h1)]
      refine ret_of_body atCalls tok mixed Try.func41 (by kernel_rfl) rfl (k := 26) (rs := [.tmp 8]) (by kernel_rfl) (by kernel_rfl) ?_
      (conv => whnf) <;> repeat' (first | ((first | refine wN ?_ | refine wA ?_ | refine wB ?_ | refine wC ?_ | refine wD ?_ | refine Called.mk _ _ (hK) ?_ | refine vA ?_ | refine vB ?_ | refine vC ?_ | refine vD ?_ | refine uA ?_ | refine uB ?_ | refine uC ?_ | refine uD ?_); conv => whnf) | ((first | apply Pick.dec | apply Pick.beq | apply Cond.dec | apply Cond.beq | apply Cond.nd | apply Pick.nd | apply Pick.mk | apply Cond.mk) <;> intro h <;> conv => whnf))
      exact End.mk rfl rfl
    · rw [if_pos h1]
      refine ret_of_body atCalls tok mixed Try.func41 (by kernel_rfl) rfl (k := 26) (rs := [.tmp 8]) (by kernel_rfl) (by kernel_rfl) ?_
      (conv => whnf) <;> repeat' (first | ((first | refine wN ?_ | refine wA ?_ | refine wB ?_ | refine wC ?_ | refine wD ?_ | refine Called.mk _ _ (hK) ?_ | refine vA ?_ | refine vB ?_ | refine vC ?_ | refine vD ?_ | refine uA ?_ | refine uB ?_ | refine uC ?_ | refine uD ?_); conv => whnf) | ((first | apply Pick.dec | apply Pick.beq | apply Cond.dec | apply Cond.beq | apply Cond.nd | apply Pick.nd | apply Pick.mk | apply Cond.mk) <;> intro h <;> conv => whnf))
      exact End.mk rfl rfl
  · rw [if_pos h0]
    refine ret_of_body atCalls tok mixed Try.func41 (by kernel_rfl) rfl (k := 26) (rs := [.tmp 8]) (by kernel_rfl) (by kernel_rfl) ?_
    (conv => whnf) <;> repeat' (first | ((first | refine wN ?_ | refine wA ?_ | refine wB ?_ | refine wC ?_ | refine wD ?_ | refine Called.mk _ _ (hK) ?_ | refine vA ?_ | refine vB ?_ | refine vC ?_ | refine vD ?_ | refine uA ?_ | refine uB ?_ | refine uC ?_ | refine uD ?_); conv => whnf) | ((first | apply Pick.dec | apply Pick.beq | apply Cond.dec | apply Cond.beq | apply Cond.nd | apply Pick.nd | apply Pick.mk | apply Cond.mk) <;> intro h <;> conv => whnf))
    exact End.mk rfl rfl
set_option maxHeartbeats 4000000 in
theorem item_ret (d : Df) (hd : d.Ok) (s : Int) (i : It) (hi : i.Ok) : Ret Try.prog 40 [eDf d, .int .i64 s, .agg (cIt i)] [] (.int .i64 (itemF d s i)) [] := by
  have h2 := suits_ret d hd s i.expr hi.wf hi.lens i.tk
  have h3 := suits_ret d hd s i.expr hi.wf hi.lens 2
  have hT := tType_ret i.tk i.ts
  unfold itemF
  generalize suitsF d s i.expr i.tk = s2 at *
  generalize suitsF d s i.expr 2 = s3 at *
  generalize typeE i.tk i.ts = te at *
  by_cases k1 : i.kind = 1
  · rw [if_pos k1]
    refine ret_of_body atCalls tok mixed Try.func40 (by kernel_rfl) rfl (k := 52) (rs := [.tmp 6]) (by kernel_rfl) (by kernel_rfl) ?_
    (conv => whnf) <;> repeat' (first | ((first | refine wN ?_ | refine wA ?_ | refine wB ?_ | refine wC ?_ | refine wD ?_ | refine Called.mk _ _ (hT) ?_ | refine vA ?_ | refine vB ?_ | refine vC ?_ | refine vD ?_ | refine uA ?_ | refine uB ?_ | refine uC ?_ | refine uD ?_); conv => whnf) | ((first | apply Pick.dec | apply Pick.beq | apply Cond.dec | apply Cond.beq | apply Cond.nd | apply Pick.nd | apply Pick.mk | apply Cond.mk) <;> intro h <;> conv => whnf))
    exact End.mk rfl rfl
  rw [if_neg k1]
  by_cases k2 : i.kind = 2
  · rw [if_pos k2]
    by_cases ht : te = 0
    · rw [if_neg (by simpa using ht)]
      by_cases hp : i.tk = 1 ∧ (i.pol < 1 ∨ 5 < i.pol)
      · rw [if_pos hp]
        obtain ⟨hp1, hp2⟩ := hp
        refine ret_of_body atCalls tok mixed Try.func40 (by kernel_rfl) rfl (k := 52) (rs := [.tmp 6]) (by kernel_rfl) (by kernel_rfl) ?_
        (conv => whnf) <;> repeat' (first | ((first | refine wN ?_ | refine wA ?_ | refine wB ?_ | refine wC ?_ | refine wD ?_ | refine Called.mk _ _ (hT) ?_ | refine vA ?_ | refine vB ?_ | refine vC ?_ | refine vD ?_ | refine uA ?_ | refine uB ?_ | refine uC ?_ | refine uD ?_); conv => whnf) | ((first | apply Pick.dec | apply Pick.beq | apply Cond.dec | apply Cond.beq | apply Cond.nd | apply Pick.nd | apply Pick.mk | apply Cond.mk) <;> intro h <;> conv => whnf))
        all_goals exact End.mk rfl rfl
      · rw [if_neg hp]
        by_cases hp1 : i.tk = 1
        · have hp2 : ¬ (i.pol < 1 ∨ 5 < i.pol) := fun h => hp ⟨hp1, h⟩
          refine ret_of_body atCalls tok mixed Try.func40 (by kernel_rfl) rfl (k := 52) (rs := [.tmp 6]) (by kernel_rfl) (by kernel_rfl) ?_
          (conv => whnf) <;> repeat' (first | ((first | refine wN ?_ | refine wA ?_ | refine wB ?_ | refine wC ?_ | refine wD ?_ | refine Called.mk _ _ (hT) ?_ | refine Called.mk _ _ (h2) ?_ | refine vA ?_ | refine vB ?_ | refine vC ?_ | refine vD ?_ | refine uA ?_ | refine uB ?_ | refine uC ?_ | refine uD ?_); conv => whnf) | ((first | apply Pick.dec | apply Pick.beq | apply Cond.dec | apply Cond.beq | apply Cond.nd | apply Pick.nd | apply Pick.mk | apply Cond.mk) <;> intro h <;> conv => whnf))
          exact End.mk rfl rfl
        · refine ret_of_body atCalls tok mixed Try.func40 (by kernel_rfl) rfl (k := 52) (rs := [.tmp 6]) (by kernel_rfl) (by kernel_rfl) ?_
          (conv => whnf) <;> repeat' (first | ((first | refine wN ?_ | refine wA ?_ | refine wB ?_ | refine wC ?_ | refine wD ?_ | refine Called.mk _ _ (hT) ?_ | refine Called.mk _ _ (h2) ?_ | refine vA ?_ | refine vB ?_ | refine vC ?_ | refine vD ?_ | refine uA ?_ | refine uB ?_ | refine uC ?_ | refine uD ?_); conv => whnf) | ((first | apply Pick.dec | apply Pick.beq | apply Cond.dec | apply Cond.beq | apply Cond.nd | apply Pick.nd | apply Pick.mk | apply Cond.mk) <;> intro h <;> conv => whnf))
          exact End.mk rfl rfl
    · rw [if_pos ht]
      refine ret_of_body atCalls tok mixed Try.func40 (by kernel_rfl) rfl (k := 52) (rs := [.tmp 6]) (by kernel_rfl) (by kernel_rfl) ?_
      (conv => whnf) <;> repeat' (first | ((first | refine wN ?_ | refine wA ?_ | refine wB ?_ | refine wC ?_ | refine wD ?_ | refine Called.mk _ _ (hT) ?_ | refine vA ?_ | refine vB ?_ | refine vC ?_ | refine vD ?_ | refine uA ?_ | refine uB ?_ | refine uC ?_ | refine uD ?_); conv => whnf) | ((first | apply Pick.dec | apply Pick.beq | apply Cond.dec | apply Cond.beq | apply Cond.nd | apply Pick.nd | apply Pick.mk | apply Cond.mk) <;> intro h <;> conv => whnf))
      exact End.mk rfl rfl
  rw [if_neg k2]
  by_cases k3 : i.kind = 3
  · rw [if_pos k3]
    refine ret_of_body atCalls tok mixed Try.func40 (by kernel_rfl) rfl (k := 52) (rs := [.tmp 6]) (by kernel_rfl) (by kernel_rfl) ?_
    (conv => whnf) <;> repeat' (first | ((first | refine wN ?_ | refine wA ?_ | refine wB ?_ | refine wC ?_ | refine wD ?_ | refine Called.mk _ _ (h3) ?_ | refine vA ?_ | refine vB ?_ | refine vC ?_ | refine vD ?_ | refine uA ?_ | refine uB ?_ | refine uC ?_ | refine uD ?_); conv => whnf) | ((first | apply Pick.dec | apply Pick.beq | apply Cond.dec | apply Cond.beq | apply Cond.nd | apply Pick.nd | apply Pick.mk | apply Cond.mk) <;> intro h <;> conv => whnf))
    exact End.mk rfl rfl
  · rw [if_neg k3]
    refine ret_of_body atCalls tok mixed Try.func40 (by kernel_rfl) rfl (k := 52) (rs := [.tmp 6]) (by kernel_rfl) (by kernel_rfl) ?_
    (conv => whnf) <;> repeat' (first | ((first | refine wN ?_ | refine wA ?_ | refine wB ?_ | refine wC ?_ | refine wD ?_ | refine vA ?_ | refine vB ?_ | refine vC ?_ | refine vD ?_ | refine uA ?_ | refine uB ?_ | refine uC ?_ | refine uD ?_); conv => whnf) | ((first | apply Pick.dec | apply Pick.beq | apply Cond.dec | apply Cond.beq | apply Cond.nd | apply Pick.nd | apply Pick.mk | apply Cond.mk) <;> intro h <;> conv => whnf))
    exact End.mk rfl rfl
end Go.Proofs.Ytkglccolonpnlaa

set_option linter.unusedVariables false
set_option linter.unusedSimpArgs false
set_option maxRecDepth 100000
namespace Go.Proofs.Ytkglccolonpnlaa
open Go.AM
set_option maxHeartbeats 8000000 in
theorem typesTable_ret (t : Tb) (hl : t.steps.length ≤ maxLen) : Ret Try.prog 39 [.agg (cTb t)] [] (.int .i64 (tableE t.steps)) [] := by
  have hm : maxLen ≤ 9223372036854775807 := by decide
  obtain ⟨nm, l⟩ := t
  simp only at hl ⊢
  have goal : ∀ r, tableE l = r → Ret Try.prog 39 [.agg [.str nm, eL 18 cSt l]] [] (.int .i64 r) [] := by
    intro r hr
    unfold tableE at hr
    refine ret_of_body atCalls tok mixed Try.func39 (by kernel_rfl) rfl (k := 57) (rs := [.tmp 2]) (by kernel_rfl) (by kernel_rfl) ?_
    (conv => whnf) <;> repeat' (first | ((first | refine wN ?_ | refine wA ?_ | refine wB ?_ | refine wC ?_ | refine wD ?_ | refine vA ?_ | refine vB ?_ | refine vC ?_ | refine vD ?_ | refine uA ?_ | refine uB ?_ | refine uC ?_ | refine uD ?_); conv => whnf) | ((first | apply Pick.dec | apply Pick.beq | apply Cond.dec | apply Cond.beq | apply Cond.nd | apply Pick.nd | apply Pick.mk | apply Cond.mk) <;> intro h <;> conv => whnf))
    intro J jw js
    have turn : ∀ (e i : Nat), i + e = l.length → (if stpsE (l.drop i) ≠ 0 then stpsE (l.drop i) else risesE l) = r →
        J [.und, .ptr 0 0, .und, .und, .und, .und, .und, .und, .und, .und, eL 18 cSt l, .int .i64 (l.length : Int), .int .i64 (i : Int), .und, .und, .und, .und, .und, .und, .und, .und, .und, .und, .und, .und, .und, .und, .und, .und, .und, .und, .und, .und, .und, .und, .und, .und, .und, .und, .und, .und, .und, .und, .und, .und, .und, .und, .und, .und, .und, .und, .und, .und, .und, .und, .und, .und] [.cells [.str nm, eL 18 cSt l]] := by
      intro e
      induction e with
      | zero =>
        intro i hi hr
        rw [List.drop_of_length_le (by omega)] at hr
        have hr : risesE l = r := hr
        apply js
        conv => whnf
        refine Cond.ff (decF (by omega)) ?_
        (conv => whnf) <;> repeat' (first | ((first | refine wN ?_ | refine wA ?_ | refine wB ?_ | refine wC ?_ | refine wD ?_ | refine vA ?_ | refine vB ?_ | refine vC ?_ | refine vD ?_ | refine uA ?_ | refine uB ?_ | refine uC ?_ | refine uD ?_); conv => whnf) | ((first | apply Pick.dec | apply Pick.beq | apply Cond.dec | apply Cond.beq | apply Cond.nd | apply Pick.nd | apply Pick.mk | apply Cond.mk) <;> intro h <;> conv => whnf))
        intro I hw hs
        have key : ∀ (f k : Nat), k + 1 + f = max l.length (k + 1) → risesE (l.drop k) = r → I [.und, .ptr 0 0, .und, .und, .und, .und, .und, .und, .int .i64 ((k + 1 : Nat) : Int), .und, .und, .und, .und, .und, .und, .und, .und, .und, .und, .und, .und, .und, .und, .und, .und, .und, .und, .und, .und, .und, .und, .und, .und, .und, .und, .und, .und, .und, .und, .und, .und, .und, .und, .und, .und, .und, .und, .und, .und, .und, .und, .und, .und, .und, .und, .und, .und] [.cells [.str nm, eL 18 cSt l]] := by
          intro f
          induction f with
          | zero =>
            intro k hk hr
            have h0 : risesE (l.drop k) = 0 := by
              have hq : (l.drop k).length ≤ 1 := by rw [List.length_drop]; omega
              generalize l.drop k = q at hq
              rcases q with _ | ⟨a, q⟩
              · rfl
              · have hq2 : q = [] := List.eq_nil_of_length_eq_zero (by rw [List.length_cons] at hq; omega)
                subst hq2; rfl
            rw [h0] at hr
            subst hr
            apply hs
            (conv => whnf) <;> repeat' (first | ((first | refine wN ?_ | refine wA ?_ | refine wB ?_ | refine wC ?_ | refine wD ?_ | refine vA ?_ | refine vB ?_ | refine vC ?_ | refine vD ?_ | refine uA ?_ | refine uB ?_ | refine uC ?_ | refine uD ?_); conv => whnf) | ((first | apply Pick.dec | apply Pick.beq | apply Cond.dec | apply Cond.beq | apply Cond.nd | apply Pick.nd | apply Pick.mk | apply Cond.mk) <;> intro h <;> conv => whnf))
            exact End.mk rfl rfl
          | succ f im =>
            intro k hk hr
            have h1 : k < l.length := by omega
            have h2 : k + 1 < l.length := by omega
            have e0 : IntKind.i64.wrap (((k + 1 : Nat) : Int) - 1) = (k : Int) := by rw [wi64_id (by omega) (by omega)]; omega
            have e1 : IntKind.i64.wrap (((k + 1 : Nat) : Int) + 1) = ((k + 1 + 1 : Nat) : Int) := by rw [wi64_id (by omega) (by omega)]; omega
            have g1 : getL cSt l (Int.toNat (k : Int)) = cSt l[k] := by rw [Int.toNat_natCast]; exact getL_at (List.getElem?_eq_getElem h1)
            have g2 : getL cSt l (Int.toNat ((k + 1 : Nat) : Int)) = cSt l[k + 1] := by rw [Int.toNat_natCast]; exact getL_at (List.getElem?_eq_getElem h2)
            have hd : risesE (l.drop k) = if 0 ≤ cmpD (l[k]).fr (l[k + 1]).fr then 100 else risesE (l.drop (k + 1)) := by
              rw [List.drop_eq_getElem_cons h1]
              show (match l.drop (k + 1) with | [] => 0 | t :: _ => if 0 ≤ cmpD (l[k]).fr t.fr then 100 else risesE (l.drop (k + 1))) = _
              rw [List.drop_eq_getElem_cons h2]
            rw [hd] at hr
            have hc := DCmp_ret (l[k]).fr (l[k + 1]).fr
            have im := im (k + 1) (by omega)
            generalize l[k] = a at *
            generalize l[k + 1] = b at *
            generalize cmpD a.fr b.fr = c at *
            by_cases hc0 : 0 ≤ c
            · rw [if_pos hc0] at hr
              subst hr
              apply hs
              (conv => whnf) <;> repeat' (first | (rw [e0]; conv => whnf) | (rw [g1]; conv => whnf) | (rw [g2]; conv => whnf) | ((first | refine wN ?_ | refine wA ?_ | refine wB ?_ | refine wC ?_ | refine wD ?_ | refine Called.mk _ _ (hc) ?_ | refine vA ?_ | refine vB ?_ | refine vC ?_ | refine vD ?_ | refine uA ?_ | refine uB ?_ | refine uC ?_ | refine uD ?_); conv => whnf) | ((first | apply Pick.dec | apply Pick.beq | apply Cond.dec | apply Cond.beq | apply Cond.nd | apply Pick.nd | apply Pick.mk | apply Cond.mk) <;> intro h <;> conv => whnf))
              exact End.mk rfl rfl
            · rw [if_neg hc0] at hr
              apply hs
              (conv => whnf) <;> repeat' (first | (rw [e0]; conv => whnf) | (rw [g1]; conv => whnf) | (rw [g2]; conv => whnf) | ((first | refine wN ?_ | refine wA ?_ | refine wB ?_ | refine wC ?_ | refine wD ?_ | refine Called.mk _ _ (hc) ?_ | refine vA ?_ | refine vB ?_ | refine vC ?_ | refine vD ?_ | refine uA ?_ | refine uB ?_ | refine uC ?_ | refine uD ?_); conv => whnf) | ((first | apply Pick.dec | apply Pick.beq | apply Cond.dec | apply Cond.beq | apply Cond.nd | apply Pick.nd | apply Pick.mk | apply Cond.mk) <;> intro h <;> conv => whnf))
              rw [e1]
              apply hw [0] [false, true, false, false, false, false, false, false, true] _ _ rfl
              exact im hr
        apply hw [0] [false, true, false, false, false, false, false, false, true] _ _ rfl
        exact key (max l.length 1 - 1) 0 (by omega) hr
      | succ e im =>
        intro i hi hr
        have hil : i < l.length := by omega
        have gk : getL cSt l (Int.toNat (i : Int)) = cSt l[i] := by rw [Int.toNat_natCast]; exact getL_at (List.getElem?_eq_getElem hil)
        have e1 : IntKind.i64.wrap ((i : Int) + 1) = ((i + 1 : Nat) : Int) := by rw [wi64_id (by omega) (by omega)]; omega
        rw [List.drop_eq_getElem_cons hil] at hr
        have hst : stpsE (l[i] :: l.drop (i + 1)) = if stpE l[i] ≠ 0 then stpE l[i] else stpsE (l.drop (i + 1)) := rfl
        rw [hst] at hr
        have im := im (i + 1) (by omega)
        generalize l[i] = s at *
        unfold stpE at hr
        have h1 := Check_ret s.fr
        have h2 := Check_ret s.base
        have h3 := Check_ret s.rate
        generalize check s.fr = c1 at *
        generalize check s.base = c2 at *
        generalize check s.rate = c3 at *
        by_cases q1 : c1 = 0
        · subst q1
          by_cases q2 : c2 = 0
          · subst q2
            by_cases q3 : c3 = 0
            · subst q3
              have hr := im hr
              apply js
              conv => whnf
              refine Cond.tt (decT (by omega)) ?_
              (conv => whnf) <;> repeat' (first | (intro I hw hs; apply hs; conv => whnf) | (apply hs; conv => whnf) | ((conv => arg 1; whnf); rw [gk]; conv => whnf) | (rw [gk]; conv => whnf) | ((first | refine wN ?_ | refine wA ?_ | refine wB ?_ | refine wC ?_ | refine wD ?_ | refine Called.mk _ _ (h1) ?_ | refine Called.mk _ _ (h2) ?_ | refine Called.mk _ _ (h3) ?_ | refine vA ?_ | refine vB ?_ | refine vC ?_ | refine vD ?_ | refine uA ?_ | refine uB ?_ | refine uC ?_ | refine uD ?_); conv => whnf) | ((first | apply Pick.dec | apply Pick.beq | apply Cond.dec | apply Cond.beq | apply Cond.nd | apply Pick.nd | apply Pick.mk | apply Cond.mk) <;> intro h <;> conv => whnf))
              rw [e1]
              apply jw [0] [false, true, false, false, false, false, false, false, false, false, true, true, true] _ _ rfl
              exact hr
            · have hr : c3 = r := by simpa [q3] using hr
              subst hr
              apply js
              conv => whnf
              refine Cond.tt (decT (by omega)) ?_
              (conv => whnf) <;> repeat' (first | (intro I hw hs; apply hs; conv => whnf) | (apply hs; conv => whnf) | ((conv => arg 1; whnf); rw [gk]; conv => whnf) | (rw [gk]; conv => whnf) | ((first | refine wN ?_ | refine wA ?_ | refine wB ?_ | refine wC ?_ | refine wD ?_ | refine Called.mk _ _ (h1) ?_ | refine Called.mk _ _ (h2) ?_ | refine Called.mk _ _ (h3) ?_ | refine vA ?_ | refine vB ?_ | refine vC ?_ | refine vD ?_ | refine uA ?_ | refine uB ?_ | refine uC ?_ | refine uD ?_); conv => whnf) | ((first | apply Pick.dec | apply Pick.beq | apply Cond.dec | apply Cond.beq | apply Cond.nd | apply Pick.nd | apply Pick.mk | apply Cond.mk) <;> intro h <;> conv => whnf))
              exact End.mk rfl rfl
          · have hr : c2 = r := by simpa [q2] using hr
            subst hr
            apply js
            conv => whnf
            refine Cond.tt (decT (by omega)) ?_
            (conv => whnf) <;> repeat' (first | (intro I hw hs; apply hs; conv => whnf) | (apply hs; conv => whnf) | ((conv => arg 1; whnf); rw [gk]; conv => whnf) | (rw [gk]; conv => whnf) | ((first | refine wN ?_ | refine wA ?_ | refine wB ?_ | refine wC ?_ | refine wD ?_ | refine Called.mk _ _ (h1) ?_ | refine Called.mk _ _ (h2) ?_ | refine vA ?_ | refine vB ?_ | refine vC ?_ | refine vD ?_ | refine uA ?_ | refine uB ?_ | refine uC ?_ | refine uD ?_); conv => whnf) | ((first | apply Pick.dec | apply Pick.beq | apply Cond.dec | apply Cond.beq | apply Cond.nd | apply Pick.nd | apply Pick.mk | apply Cond.mk) <;> intro h <;> conv => whnf))
            exact End.mk rfl rfl
        · have hr : c1 = r := by simpa [q1] using hr
          subst hr
          apply js
          conv => whnf
          refine Cond.tt (decT (by omega)) ?_
          (conv => whnf) <;> repeat' (first | (intro I hw hs; apply hs; conv => whnf) | (apply hs; conv => whnf) | ((conv => arg 1; whnf); rw [gk]; conv => whnf) | (rw [gk]; conv => whnf) | ((first | refine wN ?_ | refine wA ?_ | refine wB ?_ | refine wC ?_ | refine wD ?_ | refine Called.mk _ _ (h1) ?_ | refine vA ?_ | refine vB ?_ | refine vC ?_ | refine vD ?_ | refine uA ?_ | refine uB ?_ | refine uC ?_ | refine uD ?_); conv => whnf) | ((first | apply Pick.dec | apply Pick.beq | apply Cond.dec | apply Cond.beq | apply Cond.nd | apply Pick.nd | apply Pick.mk | apply Cond.mk) <;> intro h <;> conv => whnf))
          exact End.mk rfl rfl
    apply jw [0] [false, true, false, false, false, false, false, false, false, false, true, true, true] _ _ rfl
    exact turn l.length 0 (by omega) hr
  exact goal _ rfl
end Go.Proofs.Ytkglccolonpnlaa

set_option linter.unusedVariables false
set_option linter.unusedSimpArgs false
set_option maxRecDepth 100000
namespace Go.Proofs.Ytkglccolonpnlaa
open Go.AM
abbrev pl5 (a b c e f : Int) : Val := .agg [.int .i64 a, .int .i64 b, .int .i64 c, .int .i64 e, .int .i64 f]
def plV (l : List Int) : Val := .agg (l.map fun i => .int .i64 i)
abbrev boxD (d : Df) : Blk := .cells [.str d.name, .str d.root.name, .int .i64 d.root.max, eL 23 cIt d.root.items, .ext 4 d.root.kids.length (Sc.rows d.root.kids), eL 2 cTb d.tabs, eL 19 cPg d.pages]
set_option maxHeartbeats 16000000 in
theorem Check_ret' (d : Df) (hd : d.Ok) (ht : ∀ t ∈ d.tabs, t.steps.length ≤ maxLen) : Ret Try.prog 25 [eDf d] [] (.tup [plV (checkC d).1, .int .i64 (checkC d).2]) [] := by
  have hm : maxLen ≤ 9223372036854775807 := by decide
  have hF := flat_ret d hd
  have hlt := hd.tabs
  have hlp := hd.pages
  have hlf := d.flat_len
  have hok := hd.flat
  have goal : ∀ r, checkC d = r → Ret Try.prog 25 [eDf d] [] (.tup [plV r.1, .int .i64 r.2]) [] := by
    intro r hr
    unfold checkC at hr
    refine ret_of_body atCalls tok mixed Try.func25 (by kernel_rfl) rfl (k := 82) (rs := [.cell 2 70, .tmp 3]) (by kernel_rfl) (by kernel_rfl) ?_
    (conv => whnf) <;> repeat' (first | ((first | refine wN ?_ | refine wA ?_ | refine wB ?_ | refine wC ?_ | refine wD ?_ | refine vA ?_ | refine vB ?_ | refine vC ?_ | refine vD ?_ | refine uA ?_ | refine uB ?_ | refine uC ?_ | refine uD ?_); conv => whnf) | ((first | apply Pick.dec | apply Pick.beq | apply Cond.dec | apply Cond.beq | apply Cond.nd | apply Pick.nd | apply Pick.mk | apply Cond.mk) <;> intro h <;> conv => whnf))
    intro I hw hs
    have turn : ∀ (e i : Nat), i + e = d.tabs.length → (match tabsC i (d.tabs.drop i) with | some p => p | none => match sectsC d 0 d.flat with | some p => p | none => match pagesC d 0 d.pages with | some p => p | none => ([0, 0, 0, 0, 0], 0)) = r →
        I [.und, .ptr 0 0, .ptr 1 0, .und, .und, .und, .und, .und, .und, .und, .und, .und, .und, .und, .und, .und, eL 2 cTb d.tabs, .int .i64 (d.tabs.length : Int), .int .i64 (i : Int), .und, .und, .und, .und, .und, .und, .und, .und, .und, .und, .und, .und, .und, .und, .und, .und, .und, .und, .und, .und, .und, .und, .und, .und, .und, .und, .und, .und, .und, .und, .und, .und, .und, .und, .und, .und, .und, .und, .und, .und, .und, .und, .und, .und, .und, .und, .und, .und, .und, .und, .und, .und, .und, .und, .und, .und, .und, .und, .und, .und, .und, .und, .und] [boxD d, .cells [.int .i64 0, .int .i64 0, .int .i64 0, .int .i64 0, .int .i64 0]] := by
      intro e
      induction e with
      | succ e im =>
        intro i hi hr
        have hil : i < d.tabs.length := by omega
        have gk : getL cTb d.tabs (Int.toNat (i : Int)) = cTb d.tabs[i] := by rw [Int.toNat_natCast]; exact getL_at (List.getElem?_eq_getElem hil)
        have e1 : IntKind.i64.wrap ((i : Int) + 1) = ((i + 1 : Nat) : Int) := by rw [wi64_id (by omega) (by omega)]; omega
        have hT := typesTable_ret d.tabs[i] (ht _ (List.getElem_mem hil))
        rw [List.drop_eq_getElem_cons hil] at hr
        unfold tabsC at hr
        have im := im (i + 1) (by omega)
        generalize d.tabs[i] = t at *
        generalize tableE t.steps = te at *
        by_cases q : te = 0
        · rw [if_neg (by simpa using q)] at hr
          have im := im hr
          apply hs
          conv => whnf
          refine Cond.tt (decT (by omega)) ?_
          (conv => whnf) <;> repeat' (first | ((conv => arg 1; whnf); rw [gk]; conv => whnf) | (rw [gk]; conv => whnf) | ((first | refine wN ?_ | refine wA ?_ | refine wB ?_ | refine wC ?_ | refine wD ?_ | refine Called.mk _ _ (hT) ?_ | refine vA ?_ | refine vB ?_ | refine vC ?_ | refine vD ?_ | refine uA ?_ | refine uB ?_ | refine uC ?_ | refine uD ?_); conv => whnf) | ((first | apply Pick.dec | apply Pick.beq | apply Cond.dec | apply Cond.beq | apply Cond.nd | apply Pick.nd | apply Pick.mk | apply Cond.mk) <;> intro h <;> conv => whnf))
          rw [e1]
          apply hw [0, 1] [false, true, true, false, false, false, false, false, false, false, false, false, false, false, false, false, true, true, true] _ _ rfl
          exact im
        · rw [if_pos q] at hr
          subst hr
          apply hs
          conv => whnf
          refine Cond.tt (decT (by omega)) ?_
          (conv => whnf) <;> repeat' (first | ((conv => arg 1; whnf); rw [gk]; conv => whnf) | (rw [gk]; conv => whnf) | ((first | refine wN ?_ | refine wA ?_ | refine wB ?_ | refine wC ?_ | refine wD ?_ | refine Called.mk _ _ (hT) ?_ | refine vA ?_ | refine vB ?_ | refine vC ?_ | refine vD ?_ | refine uA ?_ | refine uB ?_ | refine uC ?_ | refine uD ?_); conv => whnf) | ((first | apply Pick.dec | apply Pick.beq | apply Cond.dec | apply Cond.beq | apply Cond.nd | apply Pick.nd | apply Pick.mk | apply Cond.mk) <;> intro h <;> conv => whnf))
          exact End.mk rfl rfl
      | zero =>
        intro i hi hr
        rw [List.drop_of_length_le (by omega)] at hr
        unfold tabsC at hr
        simp only at hr
        apply hs
        conv => whnf
        refine Cond.ff (decF (by omega)) ?_
        (conv => whnf) <;> repeat' (first | ((first | refine wN ?_ | refine wA ?_ | refine wB ?_ | refine wC ?_ | refine wD ?_ | refine Called.mk _ _ (hF) ?_ | refine vA ?_ | refine vB ?_ | refine vC ?_ | refine vD ?_ | refine uA ?_ | refine uB ?_ | refine uC ?_ | refine uD ?_); conv => whnf) | ((first | apply Pick.dec | apply Pick.beq | apply Cond.dec | apply Cond.beq | apply Cond.nd | apply Pick.nd | apply Pick.mk | apply Cond.mk) <;> intro h <;> conv => whnf))
        clear hs hw
        clear I
        intro J jw js
        have sect : ∀ (e j : Nat), j + e = d.flat.length → (match sectsC d j (d.flat.drop j) with | some p => p | none => match pagesC d 0 d.pages with | some p => p | none => ([0, 0, 0, 0, 0], 0)) = r →
            J [.und, .ptr 0 0, .ptr 1 0, .und, .und, .und, .und, .und, .und, .und, .und, .und, .und, .und, .und, .und, .und, .und, .und, .und, .und, .und, .und, .und, .und, .und, .und, .und, .und, .und, .und, .und, eL 5 cSe d.flat, .int .i64 (d.flat.length : Int), .int .i64 (j : Int), .und, .und, .und, .und, .und, .und, .und, .und, .und, .und, .und, .und, .und, .und, .und, .und, .und, .und, .und, .und, .und, .und, .und, .und, .und, .und, .und, .und, .und, .und, .und, .und, .und, .und, .und, .und, .und, .und, .und, .und, .und, .und, .und, .und, .und, .und, .und] [boxD d, .cells [.int .i64 0, .int .i64 0, .int .i64 0, .int .i64 0, .int .i64 0]] := by
          intro e
          induction e with
          | succ e im =>
            intro j hj hr
            have hjl : j < d.flat.length := by omega
            have gk : getL cSe d.flat (Int.toNat (j : Int)) = cSe d.flat[j] := by rw [Int.toNat_natCast]; exact getL_at (List.getElem?_eq_getElem hjl)
            have e1 : IntKind.i64.wrap ((j : Int) + 1) = ((j + 1 : Nat) : Int) := by rw [wi64_id (by omega) (by omega)]; omega
            have hx := hok _ (List.getElem_mem hjl)
            rw [List.drop_eq_getElem_cons hjl] at hr
            have im := im (j + 1) (by omega)
            generalize d.flat[j] = x at *
            obtain ⟨hx1, hx2⟩ := hx
            have hr : (match itemsC d j 0 x.items with | some p => p | none => (match sectsC d (j + 1) (d.flat.drop (j + 1)) with | some p => p | none => match pagesC d 0 d.pages with | some p => p | none => ([0, 0, 0, 0, 0], 0))) = r := by
              rw [← hr]
              show _ = (match (match itemsC d j 0 x.items with | some p => some p | none => sectsC d (j + 1) (d.flat.drop (j + 1))) with | some p => p | none => _)
              cases itemsC d j 0 x.items <;> rfl
            apply js
            conv => whnf
            refine Cond.tt (decT (by omega)) ?_
            (conv => whnf) <;> repeat' (first | ((conv => arg 1; whnf); rw [gk]; conv => whnf) | (rw [gk]; conv => whnf) | ((first | refine wN ?_ | refine wA ?_ | refine wB ?_ | refine wC ?_ | refine wD ?_ | refine vA ?_ | refine vB ?_ | refine vC ?_ | refine vD ?_ | refine uA ?_ | refine uB ?_ | refine uC ?_ | refine uD ?_); conv => whnf) | ((first | apply Pick.dec | apply Pick.beq | apply Cond.dec | apply Cond.beq | apply Cond.nd | apply Pick.nd | apply Pick.mk | apply Cond.mk) <;> intro h <;> conv => whnf))
            intro K kw ks
            have mid : ∀ (f i : Nat), i + f = x.items.length → (match itemsC d j i (x.items.drop i) with | some p => p | none => (match sectsC d (j + 1) (d.flat.drop (j + 1)) with | some p => p | none => match pagesC d 0 d.pages with | some p => p | none => ([0, 0, 0, 0, 0], 0))) = r →
                K [.und, .ptr 0 0, .ptr 1 0, .und, .und, .und, .und, .int .i64 (j : Int), .und, .und, .und, .und, .und, .und, .und, .und, .und, .und, .und, .und, .und, .und, .und, .und, .und, .und, .und, .und, .und, .und, .und, .und, eL 5 cSe d.flat, .int .i64 (d.flat.length : Int), .int .i64 (j : Int), .und, .und, .und, .und, .und, eL 23 cIt x.items, .int .i64 (x.items.length : Int), .int .i64 (i : Int), .und, .und, .und, .und, .und, .und, .und, .und, .und, .und, .und, .und, .und, .und, .und, .und, .und, .und, .und, .und, .und, .und, .und, .und, .und, .und, .und, .und, .und, .und, .und, .und, .und, .und, .und, .und, .und, .und, .und] [boxD d, .cells [.int .i64 0, .int .i64 0, .int .i64 0, .int .i64 0, .int .i64 0]] := by
              intro f
              induction f with
              | zero =>
                intro i hi hr
                rw [List.drop_of_length_le (by omega)] at hr
                have im := im hr
                apply ks
                conv => whnf
                refine Cond.ff (decF (by omega)) ?_
                (conv => whnf) <;> repeat' (first | ((first | refine wN ?_ | refine wA ?_ | refine wB ?_ | refine wC ?_ | refine wD ?_ | refine vA ?_ | refine vB ?_ | refine vC ?_ | refine vD ?_ | refine uA ?_ | refine uB ?_ | refine uC ?_ | refine uD ?_); conv => whnf) | ((first | apply Pick.dec | apply Pick.beq | apply Cond.dec | apply Cond.beq | apply Cond.nd | apply Pick.nd | apply Pick.mk | apply Cond.mk) <;> intro h <;> conv => whnf))
                rw [e1]
                apply jw [0, 1] [false, true, true, false, false, false, false, false, false, false, false, false, false, false, false, false, false, false, false, false, false, false, false, false, false, false, false, false, false, false, false, false, true, true, true] _ _ rfl
                exact im
              | succ f jm =>
                intro i hi hr
                have hil : i < x.items.length := by omega
                have gl : getL cIt x.items (Int.toNat (i : Int)) = cIt x.items[i] := by rw [Int.toNat_natCast]; exact getL_at (List.getElem?_eq_getElem hil)
                have e2 : IntKind.i64.wrap ((i : Int) + 1) = ((i + 1 : Nat) : Int) := by rw [wi64_id (by omega) (by omega)]; omega
                have hI := item_ret d hd (j : Int) x.items[i] (hx2 _ (List.getElem_mem hil))
                rw [List.drop_eq_getElem_cons hil] at hr
                unfold itemsC at hr
                have jm := jm (i + 1) (by omega)
                generalize x.items[i] = it at *
                generalize itemF d (j : Int) it = ie at *
                by_cases q : ie = 0
                · rw [if_neg (by simpa using q)] at hr
                  have jm := jm hr
                  apply ks
                  conv => whnf
                  refine Cond.tt (decT (by omega)) ?_
                  (conv => whnf) <;> repeat' (first | ((conv => arg 1; whnf); rw [gl]; conv => whnf) | (rw [gl]; conv => whnf) | ((first | refine wN ?_ | refine wA ?_ | refine wB ?_ | refine wC ?_ | refine wD ?_ | refine Called.mk _ _ (hI) ?_ | refine vA ?_ | refine vB ?_ | refine vC ?_ | refine vD ?_ | refine uA ?_ | refine uB ?_ | refine uC ?_ | refine uD ?_); conv => whnf) | ((first | apply Pick.dec | apply Pick.beq | apply Cond.dec | apply Cond.beq | apply Cond.nd | apply Pick.nd | apply Pick.mk | apply Cond.mk) <;> intro h <;> conv => whnf))
                  rw [e2]
                  apply kw [0, 1] [false, true, true, false, false, false, false, true, false, false, false, false, false, false, false, false, false, false, false, false, false, false, false, false, false, false, false, false, false, false, false, false, true, true, true, false, false, false, false, false, true, true, true] _ _ rfl
                  exact jm
                · rw [if_pos q] at hr
                  subst hr
                  apply ks
                  conv => whnf
                  refine Cond.tt (decT (by omega)) ?_
                  (conv => whnf) <;> repeat' (first | ((conv => arg 1; whnf); rw [gl]; conv => whnf) | (rw [gl]; conv => whnf) | ((first | refine wN ?_ | refine wA ?_ | refine wB ?_ | refine wC ?_ | refine wD ?_ | refine Called.mk _ _ (hI) ?_ | refine vA ?_ | refine vB ?_ | refine vC ?_ | refine vD ?_ | refine uA ?_ | refine uB ?_ | refine uC ?_ | refine uD ?_); conv => whnf) | ((first | apply Pick.dec | apply Pick.beq | apply Cond.dec | apply Cond.beq | apply Cond.nd | apply Pick.nd | apply Pick.mk | apply Cond.mk) <;> intro h <;> conv => whnf))
                  exact End.mk rfl rfl
            apply kw [0, 1] [false, true, true, false, false, false, false, true, false, false, false, false, false, false, false, false, false, false, false, false, false, false, false, false, false, false, false, false, false, false, false, false, true, true, true, false, false, false, false, false, true, true, true] _ _ rfl
            exact mid x.items.length 0 (by omega) hr
          | zero =>
            intro j hj hr
            rw [List.drop_of_length_le (by omega)] at hr
            unfold sectsC at hr
            simp only at hr
            apply js
            conv => whnf
            refine Cond.ff (decF (by omega)) ?_
            (conv => whnf) <;> repeat' (first | ((first | refine wN ?_ | refine wA ?_ | refine wB ?_ | refine wC ?_ | refine wD ?_ | refine vA ?_ | refine vB ?_ | refine vC ?_ | refine vD ?_ | refine uA ?_ | refine uB ?_ | refine uC ?_ | refine uD ?_); conv => whnf) | ((first | apply Pick.dec | apply Pick.beq | apply Cond.dec | apply Cond.beq | apply Cond.nd | apply Pick.nd | apply Pick.mk | apply Cond.mk) <;> intro h <;> conv => whnf))
            clear js jw
            clear J
            intro L lw ls
            have page : ∀ (e i : Nat), i + e = d.pages.length → (match pagesC d i (d.pages.drop i) with | some p => p | none => ([0, 0, 0, 0, 0], 0)) = r →
                L [.und, .ptr 0 0, .ptr 1 0, .und, .und, .und, .und, .und, .und, .und, .und, .und, .und, .und, .und, .und, .und, .und, .und, .und, .und, .und, .und, .und, .und, .und, .und, .und, .und, .und, .und, .und, .und, .und, .und, .und, .und, .und, .und, .und, .und, .und, .und, .und, .und, .und, .und, .und, .und, .und, .und, .und, .und, .und, .und, .und, .und, .und, .und, .und, eL 19 cPg d.pages, .int .i64 (d.pages.length : Int), .int .i64 (i : Int), .und, .und, .und, .und, .und, .und, .und, .und, .und, .und, .und, .und, .und, .und, .und, .und, .und, .und, .und] [boxD d, .cells [.int .i64 0, .int .i64 0, .int .i64 0, .int .i64 0, .int .i64 0]] := by
              intro e
              induction e with
              | zero =>
                intro i hi hr
                rw [List.drop_of_length_le (by omega)] at hr
                have hr : (([0, 0, 0, 0, 0], 0) : Pl) = r := hr
                subst hr
                apply ls
                conv => whnf
                refine Cond.ff (decF (by omega)) ?_
                (conv => whnf) <;> repeat' (first | ((first | refine wN ?_ | refine wA ?_ | refine wB ?_ | refine wC ?_ | refine wD ?_ | refine vA ?_ | refine vB ?_ | refine vC ?_ | refine vD ?_ | refine uA ?_ | refine uB ?_ | refine uC ?_ | refine uD ?_); conv => whnf) | ((first | apply Pick.dec | apply Pick.beq | apply Cond.dec | apply Cond.beq | apply Cond.nd | apply Pick.nd | apply Pick.mk | apply Cond.mk) <;> intro h <;> conv => whnf))
                exact End.mk rfl rfl
              | succ e im =>
                intro i hi hr
                have hil : i < d.pages.length := by omega
                have gl : getL cPg d.pages (Int.toNat (i : Int)) = cPg d.pages[i] := by rw [Int.toNat_natCast]; exact getL_at (List.getElem?_eq_getElem hil)
                have e2 : IntKind.i64.wrap ((i : Int) + 1) = ((i + 1 : Nat) : Int) := by rw [wi64_id (by omega) (by omega)]; omega
                have hpg := hd.pg _ (List.getElem_mem hil)
                have hS := suits_ret d hd 0 (d.pages[i]).whn hpg.wf hpg.lens 2
                rw [List.drop_eq_getElem_cons hil] at hr
                unfold pagesC at hr
                have im := im (i + 1) (by omega)
                generalize d.pages[i] = p at *
                generalize suitsF d 0 p.whn 2 = pe at *
                by_cases k0 : p.whn.kind = 0
                · rw [if_pos k0] at hr
                  have im := im hr
                  apply ls
                  conv => whnf
                  refine Cond.tt (decT (by omega)) ?_
                  (conv => whnf) <;> repeat' (first | ((conv => arg 1; whnf); rw [gl]; conv => whnf) | (rw [gl]; conv => whnf) | ((first | refine wN ?_ | refine wA ?_ | refine wB ?_ | refine wC ?_ | refine wD ?_ | refine vA ?_ | refine vB ?_ | refine vC ?_ | refine vD ?_ | refine uA ?_ | refine uB ?_ | refine uC ?_ | refine uD ?_); conv => whnf) | ((first | apply Pick.dec | apply Pick.beq | apply Cond.dec | apply Cond.beq | apply Cond.nd | apply Pick.nd | apply Pick.mk | apply Cond.mk) <;> intro h <;> conv => whnf))
                  rw [e2]
                  apply lw [0, 1] [false, true, true, false, false, false, false, false, false, false, false, false, false, false, false, false, false, false, false, false, false, false, false, false, false, false, false, false, false, false, false, false, false, false, false, false, false, false, false, false, false, false, false, false, false, false, false, false, false, false, false, false, false, false, false, false, false, false, false, false, true, true, true] _ _ rfl
                  exact im
                · rw [if_neg k0] at hr
                  by_cases q : pe = 0
                  · rw [if_neg (by simpa using q)] at hr
                    have im := im hr
                    apply ls
                    conv => whnf
                    refine Cond.tt (decT (by omega)) ?_
                    (conv => whnf) <;> repeat' (first | ((conv => arg 1; whnf); rw [gl]; conv => whnf) | (rw [gl]; conv => whnf) | ((first | refine wN ?_ | refine wA ?_ | refine wB ?_ | refine wC ?_ | refine wD ?_ | refine Called.mk _ _ (hS) ?_ | refine vA ?_ | refine vB ?_ | refine vC ?_ | refine vD ?_ | refine uA ?_ | refine uB ?_ | refine uC ?_ | refine uD ?_); conv => whnf) | ((first | apply Pick.dec | apply Pick.beq | apply Cond.dec | apply Cond.beq | apply Cond.nd | apply Pick.nd | apply Pick.mk | apply Cond.mk) <;> intro h <;> conv => whnf))
                    rw [e2]
                    apply lw [0, 1] [false, true, true, false, false, false, false, false, false, false, false, false, false, false, false, false, false, false, false, false, false, false, false, false, false, false, false, false, false, false, false, false, false, false, false, false, false, false, false, false, false, false, false, false, false, false, false, false, false, false, false, false, false, false, false, false, false, false, false, false, true, true, true] _ _ rfl
                    exact im
                  · rw [if_pos q] at hr
                    subst hr
                    apply ls
                    conv => whnf
                    refine Cond.tt (decT (by omega)) ?_
                    (conv => whnf) <;> repeat' (first | ((conv => arg 1; whnf); rw [gl]; conv => whnf) | (rw [gl]; conv => whnf) | ((first | refine wN ?_ | refine wA ?_ | refine wB ?_ | refine wC ?_ | refine wD ?_ | refine Called.mk _ _ (hS) ?_ | refine vA ?_ | refine vB ?_ | refine vC ?_ | refine vD ?_ | refine uA ?_ | refine uB ?_ | refine uC ?_ | refine uD ?_); conv => whnf) | ((first | apply Pick.dec | apply Pick.beq | apply Cond.dec | apply Cond.beq | apply Cond.nd | apply Pick.nd | apply Pick.mk | apply Cond.mk) <;> intro h <;> conv => whnf))
                    exact End.mk rfl rfl
            apply lw [0, 1] [false, true, true, false, false, false, false, false, false, false, false, false, false, false, false, false, false, false, false, false, false, false, false, false, false, false, false, false, false, false, false, false, false, false, false, false, false, false, false, false, false, false, false, false, false, false, false, false, false, false, false, false, false, false, false, false, false, false, false, false, true, true, true] _ _ rfl
            exact page d.pages.length 0 (by omega) hr
        apply jw [0, 1] [false, true, true, false, false, false, false, false, false, false, false, false, false, false, false, false, false, false, false, false, false, false, false, false, false, false, false, false, false, false, false, false, true, true, true] _ _ rfl
        exact sect d.flat.length 0 (by omega) hr
    apply hw [0, 1] [false, true, true, false, false, false, false, false, false, false, false, false, false, false, false, false, true, true, true] _ _ rfl
    exact turn d.tabs.length 0 (by omega) hr
  exact goal _ rfl
end Go.Proofs.Ytkglccolonpnlaa

