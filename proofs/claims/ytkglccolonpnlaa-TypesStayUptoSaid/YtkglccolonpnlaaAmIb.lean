/- Both Flats. -/
import Derived.Test.YtkglccolonpnlaaAmIa
import Derived.Test.YtkglccolonpnlaaAmHy
set_option linter.unusedVariables false
set_option linter.unusedSimpArgs false
set_option maxRecDepth 100000
namespace Go.Proofs.Ytkglccolonpnlaa
open Go.AM
theorem rflat_all (x : Sc) : x.Ok → FlQ x := by
  refine Sc.ind (Q := fun x => x.Ok → FlQ x) ?_ x
  clear x
  intro x ih hx
  obtain ⟨n, m, it, ks⟩ := x
  have ih : ∀ k ∈ ks, FlQ k := fun k hk => ih k hk (hx.kid hk)
  exact ⟨fun l par dep pr _ hl hg => rflat_S n m it ks l par dep pr hl hg, fun l par dep pr hne hg h0 => rflat_G n m it ks hx.kids1 ih l par dep pr hne hg h0, fun par dep h0 h1 => rflat_N n m it ks hx.kids1 ih par dep h0 h1⟩
theorem put_all (x : Sc) : x.Ok → PutQ x := by
  refine Sc.ind (Q := fun x => x.Ok → PutQ x) ?_ x
  clear x
  intro x ih hx
  obtain ⟨n, m, it, ks⟩ := x
  have ih : ∀ k ∈ ks, PutQ k := fun k hk => ih k hk (hx.kid hk)
  exact ⟨fun l par dep pr _ hl hg => put_S n m it ks l par dep pr hl hg, fun l par dep pr hne hg h0 => put_G n m it ks hx.kids1 hx.items2 ih l par dep pr hne hg h0, fun par dep h0 h1 => put_N n m it ks hx.kids1 hx.items2 ih par dep h0 h1⟩
theorem rFlat_ret (d : Df) (hd : d.Ok) : Ret Try.prog 19 [eDf d] [] (eL 5 cSe d.flat) [] := by
  have hc := (rflat_all d.root hd.root).2.2 (-1) 1 (by decide) (by decide)
  have hf : flatS d.root [] (-1) 1 = d.flat := rfl
  rw [hf] at hc
  generalize d.flat = l at *
  have h : Ret Try.prog 19 [eDf d] [] (.row 0 l.length) [.row 74 5 l.length (getL cSe l) l.length] := by
    refine ret_of_body atCalls tok mixed Try.func19 (by kernel_rfl) rfl (k := 6) (rs := [.tmp 2]) (by kernel_rfl) (by kernel_rfl) ?_
    (conv => whnf) <;> repeat' (first | ((first | refine wN ?_ | refine wA ?_ | refine wB ?_ | refine wC ?_ | refine wD ?_ | refine Called.mk _ _ (hc) ?_ | refine vA ?_ | refine vB ?_ | refine vC ?_ | refine vD ?_ | refine uA ?_ | refine uB ?_ | refine uC ?_ | refine uD ?_); conv => whnf) | ((first | refine Pick.dec (fun h => ?_) (fun h => ?_) | refine Pick.beq (fun h => ?_) (fun h => ?_) | refine Cond.dec (fun h => ?_) (fun h => ?_) | refine Cond.beq (fun h => ?_) (fun h => ?_) | refine Cond.nd (fun h => ?_) (fun h => ?_) | refine Pick.nd (fun h => ?_) (fun h => ?_) | refine Pick.mk (fun h => ?_) (fun h => ?_) | refine Cond.mk (fun h => ?_) (fun h => ?_)) <;> conv => whnf))
    exact EndH.mk [1] rfl rfl rfl
  exact h.lend ⟨rfl, Nat.le_refl _, Nat.le_refl _⟩ rfl
theorem flat_ret (d : Df) (hd : d.Ok) : Ret Try.prog 31 [eDf d] [] (eL 5 cSe d.flat) [] := by
  have hc := (put_all d.root hd.root).2.2 (-1) 1 (by decide) (by decide)
  have hf : flatS d.root [] (-1) 1 = d.flat := rfl
  rw [hf] at hc
  generalize d.flat = l at *
  have h : Ret Try.prog 31 [eDf d] [] (.row 0 l.length) [.row 74 5 l.length (getL cSe l) l.length] := by
    refine ret_of_body atCalls tok mixed Try.func31 (by kernel_rfl) rfl (k := 11) (rs := [.tmp 2]) (by kernel_rfl) (by kernel_rfl) ?_
    (conv => whnf) <;> repeat' (first | (refine CalledH.mk [1, 2] _ _ rfl (by simp) hc ?_; conv => whnf) | ((first | refine wN ?_ | refine wA ?_ | refine wB ?_ | refine wC ?_ | refine wD ?_ | refine vA ?_ | refine vB ?_ | refine vC ?_ | refine vD ?_ | refine uA ?_ | refine uB ?_ | refine uC ?_ | refine uD ?_); conv => whnf) | ((first | refine Pick.dec (fun h => ?_) (fun h => ?_) | refine Pick.beq (fun h => ?_) (fun h => ?_) | refine Cond.dec (fun h => ?_) (fun h => ?_) | refine Cond.beq (fun h => ?_) (fun h => ?_) | refine Cond.nd (fun h => ?_) (fun h => ?_) | refine Pick.nd (fun h => ?_) (fun h => ?_) | refine Pick.mk (fun h => ?_) (fun h => ?_) | refine Cond.mk (fun h => ?_) (fun h => ?_)) <;> conv => whnf))
    exact EndH.mk [3] rfl rfl rfl
  exact h.lend ⟨rfl, Nat.le_refl _, Nat.le_refl _⟩ rfl
end Go.Proofs.Ytkglccolonpnlaa

set_option linter.unusedVariables false
set_option linter.unusedSimpArgs false
set_option maxRecDepth 100000
namespace Go.Proofs.Ytkglccolonpnlaa
open Go.AM
theorem Kind_ret (d : Df) (hd : d.Ok) (s : Int) (x : Xp) (hx : x.Wf) (hL : x.Lens) : Ret Try.prog 14 [eDf d, .int .i64 s, eE x] [] (.tup [.int .i64 (kindK d s x).1, .int .i64 (kindK d s x).2]) [] := by
  have hF := flat_ret d hd
  have hN := nodes_ret x hx
  have hlen := d.flat_len
  have hK := kind_ret d d.flat s hlen (fun x hx => (hd.flat x hx).1) hd.tabs x hx hL
  unfold kindK
  generalize d.flat = l at *
  generalize kindF d.tabs l s x = q at *
  generalize nodesF x = nn at *
  obtain ⟨k, o, n, sc, v, sca, p, a⟩ := x
  rw [cE_mk] at hN hK ⊢
  by_cases h0 : s < 0 ∨ (l.length : Int) ≤ s
  · rw [if_pos h0]
    refine ret_of_body atCalls tok mixed Try.func14 (by kernel_rfl) rfl (k := 31) (rs := [.tmp 6, .tmp 7]) (by kernel_rfl) (by kernel_rfl) ?_
    (conv => whnf) <;> repeat' (first | ((first | refine wN ?_ | refine wA ?_ | refine wB ?_ | refine wC ?_ | refine wD ?_ | refine Called.mk _ _ (hF) ?_ | refine vA ?_ | refine vB ?_ | refine vC ?_ | refine vD ?_ | refine uA ?_ | refine uB ?_ | refine uC ?_ | refine uD ?_); conv => whnf) | ((first | refine Pick.dec (fun h => ?_) (fun h => ?_) | refine Pick.beq (fun h => ?_) (fun h => ?_) | refine Cond.dec (fun h => ?_) (fun h => ?_) | refine Cond.beq (fun h => ?_) (fun h => ?_) | refine Cond.nd (fun h => ?_) (fun h => ?_) | refine Pick.nd (fun h => ?_) (fun h => ?_) | refine Pick.mk (fun h => ?_) (fun h => ?_) | refine Cond.mk (fun h => ?_) (fun h => ?_)) <;> conv => whnf))
    all_goals exact End.mk rfl rfl
  · rw [if_neg h0]
    by_cases h1 : 64 < nn
    · rw [if_pos h1]
      refine ret_of_body atCalls tok mixed Try.func14 (by kernel_rfl) rfl (k := 31) (rs := [.tmp 6, .tmp 7]) (by kernel_rfl) (by kernel_rfl) ?_
      (conv => whnf) <;> repeat' (first | ((first | refine wN ?_ | refine wA ?_ | refine wB ?_ | refine wC ?_ | refine wD ?_ | refine Called.mk _ _ (hF) ?_ | refine Called.mk _ _ (hN) ?_ | refine vA ?_ | refine vB ?_ | refine vC ?_ | refine vD ?_ | refine uA ?_ | refine uB ?_ | refine uC ?_ | refine uD ?_); conv => whnf) | ((first | refine Pick.dec (fun h => ?_) (fun h => ?_) | refine Pick.beq (fun h => ?_) (fun h => ?_) | refine Cond.dec (fun h => ?_) (fun h => ?_) | refine Cond.beq (fun h => ?_) (fun h => ?_) | refine Cond.nd (fun h => ?_) (fun h => ?_) | refine Pick.nd (fun h => ?_) (fun h => ?_) | refine Pick.mk (fun h => ?_) (fun h => ?_) | refine Cond.mk (fun h => ?_) (fun h => ?_)) <;> conv => whnf))
      exact End.mk rfl rfl
    · rw [if_neg h1]
      refine ret_of_body atCalls tok mixed Try.func14 (by kernel_rfl) rfl (k := 31) (rs := [.tmp 6, .tmp 7]) (by kernel_rfl) (by kernel_rfl) ?_
      (conv => whnf) <;> repeat' (first | ((first | refine wN ?_ | refine wA ?_ | refine wB ?_ | refine wC ?_ | refine wD ?_ | refine Called.mk _ _ (hF) ?_ | refine Called.mk _ _ (hN) ?_ | refine Called.mk _ _ (hK) ?_ | refine vA ?_ | refine vB ?_ | refine vC ?_ | refine vD ?_ | refine uA ?_ | refine uB ?_ | refine uC ?_ | refine uD ?_); conv => whnf) | ((first | refine Pick.dec (fun h => ?_) (fun h => ?_) | refine Pick.beq (fun h => ?_) (fun h => ?_) | refine Cond.dec (fun h => ?_) (fun h => ?_) | refine Cond.beq (fun h => ?_) (fun h => ?_) | refine Cond.nd (fun h => ?_) (fun h => ?_) | refine Pick.nd (fun h => ?_) (fun h => ?_) | refine Pick.mk (fun h => ?_) (fun h => ?_) | refine Cond.mk (fun h => ?_) (fun h => ?_)) <;> conv => whnf))
      exact End.mk rfl rfl
end Go.Proofs.Ytkglccolonpnlaa

set_option linter.unusedVariables false
set_option linter.unusedSimpArgs false
set_option maxRecDepth 100000
namespace Go.Proofs.Ytkglccolonpnlaa
open Go.AM
end Go.Proofs.Ytkglccolonpnlaa

set_option linter.unusedVariables false
set_option linter.unusedSimpArgs false
set_option maxRecDepth 100000
namespace Go.Proofs.Ytkglccolonpnlaa
open Go.AM
end Go.Proofs.Ytkglccolonpnlaa

