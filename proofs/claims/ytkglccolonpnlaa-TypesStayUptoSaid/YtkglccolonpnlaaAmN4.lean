/- (asker).kind; printed by wip/tools/kindgen.py. -/
import Derived.Test.YtkglccolonpnlaaAmHz
import Derived.Test.YtkglccolonpnlaaAmHy
set_option linter.unusedVariables false
set_option linter.unusedSimpArgs false
set_option maxRecDepth 100000
namespace Go.Proofs.Ytkglccolonpnlaa
open Go.AM
theorem only_any (out : Int) (vg vw : Val) (got want : List Int) (hg : vg.le (eL 1 cI got)) (hw : vw.le (eL 1 cI want)) (hn : got.length ≤ maxLen) (hm : want.length ≤ maxLen) :
    Ret Try.prog 49 [.int .i64 out, vg, vw] [] (.tup [.int .i64 (onlyF out got want).1, .int .i64 (onlyF out got want).2]) [] :=
  (only_ret out got.length want.length _ _ got want (extL_getL cI got) (extL_getL cI want) hn hm).le (.cons (.refl _) (.cons hg (.cons hw .nil)))
theorem le_one {g : Nat → List Val} {a : Int} (h : g 0 = cI a) : (Val.ext 1 1 g).le (eL 1 cI [a]) := le_extL ⟨rfl, fun i hi => by
  obtain rfl : i = 0 := by simp at hi; omega
  exact h⟩
theorem le_three {g : Nat → List Val} {a b c : Int} (h0 : g 0 = cI a) (h1 : g 1 = cI b) (h2 : g 2 = cI c) : (Val.ext 1 3 g).le (eL 1 cI [a, b, c]) := le_extL ⟨rfl, fun i hi => by
  have : i = 0 ∨ i = 1 ∨ i = 2 := by simp at hi; omega
  rcases this with rfl | rfl | rfl
  · exact h0
  · exact h1
  · exact h2⟩
theorem round_any (k o : Int) (n s : ByteArray) (v : Vl) (sc p : Int) (a : List Xp) (vg : Val) (l : List Int) (hg : vg.le (eL 1 cI l)) (hl : l.length ≤ maxLen) :
    Ret Try.prog 52 [eE (.mk k o n s v sc p a), vg] [] (.tup [.int .i64 (roundF sc p l).1, .int .i64 (roundF sc p l).2]) [] :=
  (round_ret k o n s v sc p a l hl).le (.cons (.refl _) (.cons hg .nil))
theorem refl_le (v : Val) : v.le v := .refl v
set_option maxHeartbeats 16000000 in
theorem kind_ret (d : Df) (l : List Se) (sec : Int) (hl : l.length ≤ 64) (hi : ∀ x ∈ l, x.items.length ≤ maxLen) (ht : d.tabs.length ≤ maxLen) (x : Xp) : x.Wf → x.Lens →
    Ret Try.prog 32 [eAs d l, .int .i64 sec, eE x] [] (.tup [.int .i64 (kindF d.tabs l sec x).1, .int .i64 (kindF d.tabs l sec x).2]) [] := by
  refine Xp.ind (Q := fun x => x.Wf → x.Lens → Ret Try.prog 32 [eAs d l, .int .i64 sec, eE x] [] (.tup [.int .i64 (kindF d.tabs l sec x).1, .int .i64 (kindF d.tabs l sec x).2]) []) ?_ x
  clear x
  intro x ih hx hL
  obtain ⟨k, o, n, s, v, sc, p, as1⟩ := x
  have hlen : as1.length ≤ maxLen := hx.one.len
  have hm : maxLen ≤ 9223372036854775807 := by decide
  have hbig : as1.length * 176 ≤ 140737488355328 := hL.one
  have ih : ∀ y ∈ as1, Ret Try.prog 32 [eAs d l, .int .i64 sec, eE y] [] (.tup [.int .i64 (kindF d.tabs l sec y).1, .int .i64 (kindF d.tabs l sec y).2]) [] := fun y hy => ih y hy (hx.arg hy) (hL.arg hy)
  have goal : ∀ r, kindF d.tabs l sec (.mk k o n s v sc p as1) = r → Ret Try.prog 32 [eAs d l, .int .i64 sec, eE (.mk k o n s v sc p as1)] [] (.tup [.int .i64 r.1, .int .i64 r.2]) [] := by
    intro r hr
    rw [kindF_mk] at hr
    have hC := tConst_ret v
    have hN := name_ret d l sec k o n s v sc p as1 hl hi
    have hA := agg_ret d l sec k o n s v sc p as1 hl hi
    have hT := table_ret d n ht
    rw [cE_mk] at hN hA ⊢
    refine ret_of_body atCalls tok mixed Try.func32 (by kernel_rfl) rfl (k := 149) (rs := [.tmp 6, .tmp 7]) (by kernel_rfl) (by kernel_rfl) ?_
    (conv => whnf) <;> repeat' (first | ((first | refine wN ?_ | refine wA ?_ | refine wB ?_ | refine wC ?_ | refine wD ?_ | refine vA ?_ | refine vB ?_ | refine vC ?_ | refine vD ?_ | refine uA ?_ | refine uB ?_ | refine uC ?_ | refine uD ?_); conv => whnf) | ((first | refine Pick.dec (fun h => ?_) (fun h => ?_) | refine Pick.beq (fun h => ?_) (fun h => ?_) | refine Cond.dec (fun h => ?_) (fun h => ?_) | refine Cond.beq (fun h => ?_) (fun h => ?_) | refine Cond.nd (fun h => ?_) (fun h => ?_) | refine Pick.nd (fun h => ?_) (fun h => ?_) | refine Pick.mk (fun h => ?_) (fun h => ?_) | refine Cond.mk (fun h => ?_) (fun h => ?_)) <;> conv => whnf))
    intro I hw hs
    have turnB : ∀ (e i : Nat) (ks : List Int) (pr : Nat), i + e = as1.length → ks.length = i → ks ≠ [] → (if (kindsF d.tabs l sec (as1.drop i)).1 ≠ 0 then (0, (kindsF d.tabs l sec (as1.drop i)).1) else headF d.tabs l sec k o n s v sc p as1.length (ks ++ (kindsF d.tabs l sec (as1.drop i)).2)) = r → I [.und, .int .i64 sec, .und, .ptr 0 0, .und, .ptr 1 0, .und, .und, .row 2 ks.length, .und, .und, .und, .und, .und, .und, .und, .und, .ext 17 as1.length (Xp.rows as1), .int .i64 (as1.length : Int), .int .i64 (i : Int), .und, .und, .und, .und, .und, .und, .und, .und, .und, .und, .und, .und, .und, .und, .und, .und, .und, .und, .und, .und, .und, .und, .und, .und, .und, .und, .und, .und, .und, .und, .und, .und, .und, .und, .und, .und, .und, .und, .und, .und, .und, .und, .und, .und, .und, .und, .und, .und, .und, .und, .und, .und, .und, .und, .und, .und, .und, .und, .und, .und, .und, .und, .und, .und, .und, .und, .und, .und, .und, .und, .und, .und, .und, .und, .und, .und, .und, .und, .und, .und, .und, .und, .und, .und, .und, .und, .und, .und, .und, .und, .und, .und, .und, .und, .und, .und, .und, .und, .und, .und, .und, .und, .und, .und, .und, .und, .und, .und, .und, .und, .und, .und, .und, .und, .und, .und, .und, .und, .und, .und, .und, .und, .und, .und, .und, .und, .und, .und, .und] [.cells (cAs d l), .cells (hdX k o n s v sc p ++ [.ext 17 as1.length (Xp.rows as1)]), .row 3 1 ks.length (getL cI ks) pr] := by
      intro e
      induction e with
      | zero =>
        intro i ks pr hie hki hne hr
        rw [List.drop_of_length_le (by omega), kindsF_nil, if_neg (by simp)] at hr
        simp only [List.append_nil] at hr
        have hks : ks.length ≤ maxLen := by omega
        have hle : (eL 1 cI ks : Val).le (eL 1 cI ks) := refl_le _
        unfold headF at hr
        by_cases k1 : k = 1
        · rw [if_pos k1] at hr
          have ho := only_any v.kind _ .nils ks [] hle le_nils hks (by simp)
          by_cases hc : constE v ≠ 0
          · rw [if_pos hc] at hr
            subst hr
            generalize constE v = ce at *
            apply hs
            conv => whnf
            refine Cond.ff (decF (by omega)) ?_
            (conv => whnf) <;> repeat' (first | ((first | refine wN ?_ | refine wA ?_ | refine wB ?_ | refine wC ?_ | refine wD ?_ | refine Called.mk _ _ (hC) ?_ | refine vA ?_ | refine vB ?_ | refine vC ?_ | refine vD ?_ | refine uA ?_ | refine uB ?_ | refine uC ?_ | refine uD ?_); conv => whnf) | ((first | refine Pick.dec (fun h => ?_) (fun h => ?_) | refine Pick.beq (fun h => ?_) (fun h => ?_) | refine Cond.dec (fun h => ?_) (fun h => ?_) | refine Cond.beq (fun h => ?_) (fun h => ?_) | refine Cond.nd (fun h => ?_) (fun h => ?_) | refine Pick.nd (fun h => ?_) (fun h => ?_) | refine Pick.mk (fun h => ?_) (fun h => ?_) | refine Cond.mk (fun h => ?_) (fun h => ?_)) <;> conv => whnf))
            exact End.mk rfl rfl
          · rw [if_neg hc] at hr
            have hc : constE v = 0 := by simpa using hc
            rw [hc] at hC
            generalize onlyF v.kind ks [] = q at *
            subst hr
            apply hs
            conv => whnf
            refine Cond.ff (decF (by omega)) ?_
            (conv => whnf) <;> repeat' (first | ((first | refine wN ?_ | refine wA ?_ | refine wB ?_ | refine wC ?_ | refine wD ?_ | refine Called.mk _ _ (hC) ?_ | refine Called.mk _ _ (ho) ?_ | refine vA ?_ | refine vB ?_ | refine vC ?_ | refine vD ?_ | refine uA ?_ | refine uB ?_ | refine uC ?_ | refine uD ?_); conv => whnf) | ((first | refine Pick.dec (fun h => ?_) (fun h => ?_) | refine Pick.beq (fun h => ?_) (fun h => ?_) | refine Cond.dec (fun h => ?_) (fun h => ?_) | refine Cond.beq (fun h => ?_) (fun h => ?_) | refine Cond.nd (fun h => ?_) (fun h => ?_) | refine Pick.nd (fun h => ?_) (fun h => ?_) | refine Pick.mk (fun h => ?_) (fun h => ?_) | refine Cond.mk (fun h => ?_) (fun h => ?_)) <;> conv => whnf))
            exact End.mk rfl rfl
        rw [if_neg k1] at hr
        by_cases k2 : k = 2
        · rw [if_pos k2] at hr
          generalize nameF l sec n as1.length = q at *
          subst hr
          apply hs
          conv => whnf
          refine Cond.ff (decF (by omega)) ?_
          (conv => whnf) <;> repeat' (first | ((first | refine wN ?_ | refine wA ?_ | refine wB ?_ | refine wC ?_ | refine wD ?_ | refine Called.mk _ _ (hN) ?_ | refine vA ?_ | refine vB ?_ | refine vC ?_ | refine vD ?_ | refine uA ?_ | refine uB ?_ | refine uC ?_ | refine uD ?_); conv => whnf) | ((first | refine Pick.dec (fun h => ?_) (fun h => ?_) | refine Pick.beq (fun h => ?_) (fun h => ?_) | refine Cond.dec (fun h => ?_) (fun h => ?_) | refine Cond.beq (fun h => ?_) (fun h => ?_) | refine Cond.nd (fun h => ?_) (fun h => ?_) | refine Pick.nd (fun h => ?_) (fun h => ?_) | refine Pick.mk (fun h => ?_) (fun h => ?_) | refine Cond.mk (fun h => ?_) (fun h => ?_)) <;> conv => whnf))
          exact End.mk rfl rfl
        rw [if_neg k2] at hr
        by_cases k3 : k = 3
        · rw [if_pos k3] at hr
          have ho := fun (g : Nat → List Val) (hg : g 0 = cI 1) => only_any 1 _ (.ext 1 1 g) ks [1] hle (le_one hg) hks (by decide)
          generalize onlyF 1 ks [1] = q at *
          subst hr
          apply hs
          conv => whnf
          refine Cond.ff (decF (by omega)) ?_
          (conv => whnf) <;> repeat' (first | ((first | refine wN ?_ | refine wA ?_ | refine wB ?_ | refine wC ?_ | refine wD ?_ | refine Called.mk _ _ (ho _ rfl) ?_ | refine vA ?_ | refine vB ?_ | refine vC ?_ | refine vD ?_ | refine uA ?_ | refine uB ?_ | refine uC ?_ | refine uD ?_); conv => whnf) | ((first | refine Pick.dec (fun h => ?_) (fun h => ?_) | refine Pick.beq (fun h => ?_) (fun h => ?_) | refine Cond.dec (fun h => ?_) (fun h => ?_) | refine Cond.beq (fun h => ?_) (fun h => ?_) | refine Cond.nd (fun h => ?_) (fun h => ?_) | refine Pick.nd (fun h => ?_) (fun h => ?_) | refine Pick.mk (fun h => ?_) (fun h => ?_) | refine Cond.mk (fun h => ?_) (fun h => ?_)) <;> conv => whnf))
          exact End.mk rfl rfl
        rw [if_neg k3] at hr
        by_cases k4 : k = 4
        · rw [if_pos k4] at hr
          have ho := fun (g : Nat → List Val) (hg : g 0 = cI 2) => only_any 2 _ (.ext 1 1 g) ks [2] hle (le_one hg) hks (by decide)
          generalize onlyF 2 ks [2] = q at *
          subst hr
          apply hs
          conv => whnf
          refine Cond.ff (decF (by omega)) ?_
          (conv => whnf) <;> repeat' (first | ((first | refine wN ?_ | refine wA ?_ | refine wB ?_ | refine wC ?_ | refine wD ?_ | refine Called.mk _ _ (ho _ rfl) ?_ | refine vA ?_ | refine vB ?_ | refine vC ?_ | refine vD ?_ | refine uA ?_ | refine uB ?_ | refine uC ?_ | refine uD ?_); conv => whnf) | ((first | refine Pick.dec (fun h => ?_) (fun h => ?_) | refine Pick.beq (fun h => ?_) (fun h => ?_) | refine Cond.dec (fun h => ?_) (fun h => ?_) | refine Cond.beq (fun h => ?_) (fun h => ?_) | refine Cond.nd (fun h => ?_) (fun h => ?_) | refine Pick.nd (fun h => ?_) (fun h => ?_) | refine Pick.mk (fun h => ?_) (fun h => ?_) | refine Cond.mk (fun h => ?_) (fun h => ?_)) <;> conv => whnf))
          exact End.mk rfl rfl
        rw [if_neg k4] at hr
        by_cases k9 : k = 9
        · rw [if_pos k9] at hr
          by_cases hq : ks.length = 1
          · rw [if_pos hq] at hr
            subst hr
            apply hs
            conv => whnf
            refine Cond.ff (decF (by omega)) ?_
            (conv => whnf) <;> repeat' (first | ((first | refine wN ?_ | refine wA ?_ | refine wB ?_ | refine wC ?_ | refine wD ?_ | refine vA ?_ | refine vB ?_ | refine vC ?_ | refine vD ?_ | refine uA ?_ | refine uB ?_ | refine uC ?_ | refine uD ?_); conv => whnf) | ((first | refine Pick.dec (fun h => ?_) (fun h => ?_) | refine Pick.beq (fun h => ?_) (fun h => ?_) | refine Cond.dec (fun h => ?_) (fun h => ?_) | refine Cond.beq (fun h => ?_) (fun h => ?_) | refine Cond.nd (fun h => ?_) (fun h => ?_) | refine Pick.nd (fun h => ?_) (fun h => ?_) | refine Pick.mk (fun h => ?_) (fun h => ?_) | refine Cond.mk (fun h => ?_) (fun h => ?_)) <;> conv => whnf))
            exact End.mk rfl rfl
          · rw [if_neg hq] at hr
            subst hr
            apply hs
            conv => whnf
            refine Cond.ff (decF (by omega)) ?_
            (conv => whnf) <;> repeat' (first | ((first | refine wN ?_ | refine wA ?_ | refine wB ?_ | refine wC ?_ | refine wD ?_ | refine vA ?_ | refine vB ?_ | refine vC ?_ | refine vD ?_ | refine uA ?_ | refine uB ?_ | refine uC ?_ | refine uD ?_); conv => whnf) | ((first | refine Pick.dec (fun h => ?_) (fun h => ?_) | refine Pick.beq (fun h => ?_) (fun h => ?_) | refine Cond.dec (fun h => ?_) (fun h => ?_) | refine Cond.beq (fun h => ?_) (fun h => ?_) | refine Cond.nd (fun h => ?_) (fun h => ?_) | refine Pick.nd (fun h => ?_) (fun h => ?_) | refine Pick.mk (fun h => ?_) (fun h => ?_) | refine Cond.mk (fun h => ?_) (fun h => ?_)) <;> conv => whnf))
            exact End.mk rfl rfl
        rw [if_neg k9] at hr
        by_cases k5 : k = 5
        · rw [if_pos k5] at hr
          by_cases hq : ks.length = 2
          · rw [if_pos hq] at hr
            obtain ⟨a, b, rfl⟩ : ∃ a b, ks = [a, b] := by
              match ks, hq with
              | [a, b], _ => exact ⟨a, b, rfl⟩
            have ho := oper_ret o a b
            have hr : operF o a b = r := hr
            generalize operF o a b = q at *
            subst hr
            apply hs
            conv => whnf
            refine Cond.ff (decF (by omega)) ?_
            (conv => whnf) <;> repeat' (first | ((first | refine wN ?_ | refine wA ?_ | refine wB ?_ | refine wC ?_ | refine wD ?_ | refine Called.mk _ _ (ho) ?_ | refine vA ?_ | refine vB ?_ | refine vC ?_ | refine vD ?_ | refine uA ?_ | refine uB ?_ | refine uC ?_ | refine uD ?_); conv => whnf) | ((first | refine Pick.dec (fun h => ?_) (fun h => ?_) | refine Pick.beq (fun h => ?_) (fun h => ?_) | refine Cond.dec (fun h => ?_) (fun h => ?_) | refine Cond.beq (fun h => ?_) (fun h => ?_) | refine Cond.nd (fun h => ?_) (fun h => ?_) | refine Pick.nd (fun h => ?_) (fun h => ?_) | refine Pick.mk (fun h => ?_) (fun h => ?_) | refine Cond.mk (fun h => ?_) (fun h => ?_)) <;> conv => whnf))
            exact End.mk rfl rfl
          · rw [if_neg hq] at hr
            subst hr
            apply hs
            conv => whnf
            refine Cond.ff (decF (by omega)) ?_
            (conv => whnf) <;> repeat' (first | ((first | refine wN ?_ | refine wA ?_ | refine wB ?_ | refine wC ?_ | refine wD ?_ | refine vA ?_ | refine vB ?_ | refine vC ?_ | refine vD ?_ | refine uA ?_ | refine uB ?_ | refine uC ?_ | refine uD ?_); conv => whnf) | ((first | refine Pick.dec (fun h => ?_) (fun h => ?_) | refine Pick.beq (fun h => ?_) (fun h => ?_) | refine Cond.dec (fun h => ?_) (fun h => ?_) | refine Cond.beq (fun h => ?_) (fun h => ?_) | refine Cond.nd (fun h => ?_) (fun h => ?_) | refine Pick.nd (fun h => ?_) (fun h => ?_) | refine Pick.mk (fun h => ?_) (fun h => ?_) | refine Cond.mk (fun h => ?_) (fun h => ?_)) <;> conv => whnf))
            exact End.mk rfl rfl
        rw [if_neg k5] at hr
        by_cases k6 : k = 6
        · rw [if_pos k6] at hr
          by_cases hq : ks.length = 3
          · rw [if_pos hq] at hr
            obtain ⟨a, b, c, rfl⟩ : ∃ a b c, ks = [a, b, c] := by
              match ks, hq with
              | [a, b, c], _ => exact ⟨a, b, c, rfl⟩
            have hr : onlyF b [a, b, c] [2, b, b] = r := hr
            have ho := fun (g g' : Nat → List Val) (e0 : g' 0 = cI a) (e1 : g' 1 = cI b) (e2 : g' 2 = cI c) (h0 : g 0 = cI 2) (h1 : g 1 = cI b) (h2 : g 2 = cI b) => only_any b (.ext 1 3 g') (.ext 1 3 g) [a, b, c] [2, b, b] (le_three e0 e1 e2) (le_three h0 h1 h2) (by show 3 ≤ maxLen; decide) (by show 3 ≤ maxLen; decide)
            generalize onlyF b [a, b, c] [2, b, b] = q at *
            subst hr
            apply hs
            conv => whnf
            refine Cond.ff (decF (by omega)) ?_
            (conv => whnf) <;> repeat' (first | ((first | refine wN ?_ | refine wA ?_ | refine wB ?_ | refine wC ?_ | refine wD ?_ | refine Called.mk _ _ (ho _ _ rfl rfl rfl rfl rfl rfl) ?_ | refine vA ?_ | refine vB ?_ | refine vC ?_ | refine vD ?_ | refine uA ?_ | refine uB ?_ | refine uC ?_ | refine uD ?_); conv => whnf) | ((first | refine Pick.dec (fun h => ?_) (fun h => ?_) | refine Pick.beq (fun h => ?_) (fun h => ?_) | refine Cond.dec (fun h => ?_) (fun h => ?_) | refine Cond.beq (fun h => ?_) (fun h => ?_) | refine Cond.nd (fun h => ?_) (fun h => ?_) | refine Pick.nd (fun h => ?_) (fun h => ?_) | refine Pick.mk (fun h => ?_) (fun h => ?_) | refine Cond.mk (fun h => ?_) (fun h => ?_)) <;> conv => whnf))
            exact End.mk rfl rfl
          · rw [if_neg hq] at hr
            subst hr
            apply hs
            conv => whnf
            refine Cond.ff (decF (by omega)) ?_
            (conv => whnf) <;> repeat' (first | ((first | refine wN ?_ | refine wA ?_ | refine wB ?_ | refine wC ?_ | refine wD ?_ | refine vA ?_ | refine vB ?_ | refine vC ?_ | refine vD ?_ | refine uA ?_ | refine uB ?_ | refine uC ?_ | refine uD ?_); conv => whnf) | ((first | refine Pick.dec (fun h => ?_) (fun h => ?_) | refine Pick.beq (fun h => ?_) (fun h => ?_) | refine Cond.dec (fun h => ?_) (fun h => ?_) | refine Cond.beq (fun h => ?_) (fun h => ?_) | refine Cond.nd (fun h => ?_) (fun h => ?_) | refine Pick.nd (fun h => ?_) (fun h => ?_) | refine Pick.mk (fun h => ?_) (fun h => ?_) | refine Cond.mk (fun h => ?_) (fun h => ?_)) <;> conv => whnf))
            exact End.mk rfl rfl
        rw [if_neg k6] at hr
        by_cases k7 : k = 7
        · rw [if_pos k7] at hr
          have ho := round_any k o n s v sc p as1 _ ks hle hks
          rw [cE_mk] at ho
          generalize roundF sc p ks = q at *
          subst hr
          apply hs
          conv => whnf
          refine Cond.ff (decF (by omega)) ?_
          (conv => whnf) <;> repeat' (first | ((first | refine wN ?_ | refine wA ?_ | refine wB ?_ | refine wC ?_ | refine wD ?_ | refine Called.mk _ _ (ho) ?_ | refine vA ?_ | refine vB ?_ | refine vC ?_ | refine vD ?_ | refine uA ?_ | refine uB ?_ | refine uC ?_ | refine uD ?_); conv => whnf) | ((first | refine Pick.dec (fun h => ?_) (fun h => ?_) | refine Pick.beq (fun h => ?_) (fun h => ?_) | refine Cond.dec (fun h => ?_) (fun h => ?_) | refine Cond.beq (fun h => ?_) (fun h => ?_) | refine Cond.nd (fun h => ?_) (fun h => ?_) | refine Pick.nd (fun h => ?_) (fun h => ?_) | refine Pick.mk (fun h => ?_) (fun h => ?_) | refine Cond.mk (fun h => ?_) (fun h => ?_)) <;> conv => whnf))
          exact End.mk rfl rfl
        rw [if_neg k7] at hr
        by_cases k8 : k = 8
        · rw [if_pos k8] at hr
          have ho := fun (g : Nat → List Val) (hg : g 0 = cI 1) => only_any 1 _ (.ext 1 1 g) ks [1] hle (le_one hg) hks (by decide)
          by_cases hj : 0 ≤ idxT n 0 d.tabs
          · rw [if_pos hj] at hr
            have e : tableF d.tabs n = (idxT n 0 d.tabs, true) := if_pos hj
            rw [e] at hT
            generalize idxT n 0 d.tabs = j at *
            generalize onlyF 1 ks [1] = q at *
            subst hr
            apply hs
            conv => whnf
            refine Cond.ff (decF (by omega)) ?_
            (conv => whnf) <;> repeat' (first | ((first | refine wN ?_ | refine wA ?_ | refine wB ?_ | refine wC ?_ | refine wD ?_ | refine Called.mk _ _ (hT) ?_ | refine Called.mk _ _ (ho _ rfl) ?_ | refine vA ?_ | refine vB ?_ | refine vC ?_ | refine vD ?_ | refine uA ?_ | refine uB ?_ | refine uC ?_ | refine uD ?_); conv => whnf) | ((first | refine Pick.dec (fun h => ?_) (fun h => ?_) | refine Pick.beq (fun h => ?_) (fun h => ?_) | refine Cond.dec (fun h => ?_) (fun h => ?_) | refine Cond.beq (fun h => ?_) (fun h => ?_) | refine Cond.nd (fun h => ?_) (fun h => ?_) | refine Pick.nd (fun h => ?_) (fun h => ?_) | refine Pick.mk (fun h => ?_) (fun h => ?_) | refine Cond.mk (fun h => ?_) (fun h => ?_)) <;> conv => whnf))
            exact End.mk rfl rfl
          · rw [if_neg hj] at hr
            have e : tableF d.tabs n = (0, false) := if_neg hj
            rw [e] at hT
            subst hr
            apply hs
            conv => whnf
            refine Cond.ff (decF (by omega)) ?_
            (conv => whnf) <;> repeat' (first | ((first | refine wN ?_ | refine wA ?_ | refine wB ?_ | refine wC ?_ | refine wD ?_ | refine Called.mk _ _ (hT) ?_ | refine vA ?_ | refine vB ?_ | refine vC ?_ | refine vD ?_ | refine uA ?_ | refine uB ?_ | refine uC ?_ | refine uD ?_); conv => whnf) | ((first | refine Pick.dec (fun h => ?_) (fun h => ?_) | refine Pick.beq (fun h => ?_) (fun h => ?_) | refine Cond.dec (fun h => ?_) (fun h => ?_) | refine Cond.beq (fun h => ?_) (fun h => ?_) | refine Cond.nd (fun h => ?_) (fun h => ?_) | refine Pick.nd (fun h => ?_) (fun h => ?_) | refine Pick.mk (fun h => ?_) (fun h => ?_) | refine Cond.mk (fun h => ?_) (fun h => ?_)) <;> conv => whnf))
            exact End.mk rfl rfl
        rw [if_neg k8] at hr
        by_cases k10 : k = 10
        · rw [if_pos k10] at hr
          generalize aggF l sec o n s as1.length = q at *
          subst hr
          apply hs
          conv => whnf
          refine Cond.ff (decF (by omega)) ?_
          (conv => whnf) <;> repeat' (first | ((first | refine wN ?_ | refine wA ?_ | refine wB ?_ | refine wC ?_ | refine wD ?_ | refine Called.mk _ _ (hA) ?_ | refine vA ?_ | refine vB ?_ | refine vC ?_ | refine vD ?_ | refine uA ?_ | refine uB ?_ | refine uC ?_ | refine uD ?_); conv => whnf) | ((first | refine Pick.dec (fun h => ?_) (fun h => ?_) | refine Pick.beq (fun h => ?_) (fun h => ?_) | refine Cond.dec (fun h => ?_) (fun h => ?_) | refine Cond.beq (fun h => ?_) (fun h => ?_) | refine Cond.nd (fun h => ?_) (fun h => ?_) | refine Pick.nd (fun h => ?_) (fun h => ?_) | refine Pick.mk (fun h => ?_) (fun h => ?_) | refine Cond.mk (fun h => ?_) (fun h => ?_)) <;> conv => whnf))
          exact End.mk rfl rfl
        rw [if_neg k10] at hr
        subst hr
        apply hs
        conv => whnf
        refine Cond.ff (decF (by omega)) ?_
        (conv => whnf) <;> repeat' (first | ((first | refine wN ?_ | refine wA ?_ | refine wB ?_ | refine wC ?_ | refine wD ?_ | refine vA ?_ | refine vB ?_ | refine vC ?_ | refine vD ?_ | refine uA ?_ | refine uB ?_ | refine uC ?_ | refine uD ?_); conv => whnf) | ((first | refine Pick.dec (fun h => ?_) (fun h => ?_) | refine Pick.beq (fun h => ?_) (fun h => ?_) | refine Cond.dec (fun h => ?_) (fun h => ?_) | refine Cond.beq (fun h => ?_) (fun h => ?_) | refine Cond.nd (fun h => ?_) (fun h => ?_) | refine Pick.nd (fun h => ?_) (fun h => ?_) | refine Pick.mk (fun h => ?_) (fun h => ?_) | refine Cond.mk (fun h => ?_) (fun h => ?_)) <;> conv => whnf))
        exact End.mk rfl rfl
      | succ e im =>
        intro i ks pr hie hki hne hr
        have hil : i < as1.length := by omega
        have gk : Xp.rows as1 (Int.toNat (i : Int)) = cE as1[i] := by rw [Int.toNat_natCast]; exact (Xp.rows_ext as1).2 i hil
        have e1 : IntKind.i64.wrap ((i : Int) + 1) = ((i + 1 : Nat) : Int) := by rw [wi64_id (by omega) (by omega)]; omega
        have hc := ih as1[i] (List.getElem_mem hil)
        rw [List.drop_eq_getElem_cons hil] at hr
        generalize as1[i] = y at *
        by_cases he : (kindF d.tabs l sec y).2 ≠ 0
        · rw [kindsF_bad he, if_pos he] at hr
          generalize kindF d.tabs l sec y = q at *
          subst hr
          apply hs
          conv => whnf
          refine Cond.tt (decT (by omega)) ?_
          (conv => whnf) <;> repeat' (first | ((conv => arg 1; whnf); rw [gk]; conv => whnf) | ((first | refine wN ?_ | refine wA ?_ | refine wB ?_ | refine wC ?_ | refine wD ?_ | refine Called.mk _ _ (hc) ?_ | refine vA ?_ | refine vB ?_ | refine vC ?_ | refine vD ?_ | refine uA ?_ | refine uB ?_ | refine uC ?_ | refine uD ?_); conv => whnf) | ((first | refine Pick.dec (fun h => ?_) (fun h => ?_) | refine Pick.beq (fun h => ?_) (fun h => ?_) | refine Cond.dec (fun h => ?_) (fun h => ?_) | refine Cond.beq (fun h => ?_) (fun h => ?_) | refine Cond.nd (fun h => ?_) (fun h => ?_) | refine Pick.nd (fun h => ?_) (fun h => ?_) | refine Pick.mk (fun h => ?_) (fun h => ?_) | refine Cond.mk (fun h => ?_) (fun h => ?_)) <;> conv => whnf))
          exact End.mk rfl rfl
        have he : (kindF d.tabs l sec y).2 = 0 := by simpa using he
        rw [kindsF_ok he] at hr
        rw [he] at hc
        generalize (kindF d.tabs l sec y).1 = q at *
        have hr2 : (if (kindsF d.tabs l sec (as1.drop (i + 1))).1 ≠ 0 then (0, (kindsF d.tabs l sec (as1.drop (i + 1))).1) else headF d.tabs l sec k o n s v sc p as1.length ((ks ++ [q]) ++ (kindsF d.tabs l sec (as1.drop (i + 1))).2)) = r := by
          rw [← hr]
          by_cases hz : (kindsF d.tabs l sec (as1.drop (i + 1))).1 ≠ 0
          · rw [if_pos hz, if_pos hz, if_pos hz]
          · rw [if_neg hz, if_neg hz, if_neg (by simp)]
            simp
        have nxt := fun pr => im (i + 1) (ks ++ [q]) pr (by omega) (by simp [hki]) (by simp) hr2
        have el : (ks ++ [q]).length = ks.length + 1 := by simp
        rw [el] at nxt
        apply hs
        conv => whnf
        refine Cond.tt (decT (by omega)) ?_
        (conv => whnf) <;> repeat' (first | ((conv => arg 1; whnf); rw [gk]; conv => whnf) | (rw [getI_snoc]; conv => whnf) | ((first | refine wN ?_ | refine wA ?_ | refine wB ?_ | refine wC ?_ | refine wD ?_ | refine Called.mk _ _ (hc) ?_ | refine vA ?_ | refine vB ?_ | refine vC ?_ | refine vD ?_ | refine uA ?_ | refine uB ?_ | refine uC ?_ | refine uD ?_); conv => whnf) | ((first | refine Pick.dec (fun h => ?_) (fun h => ?_) | refine Pick.beq (fun h => ?_) (fun h => ?_) | refine Cond.dec (fun h => ?_) (fun h => ?_) | refine Cond.beq (fun h => ?_) (fun h => ?_) | refine Cond.nd (fun h => ?_) (fun h => ?_) | refine Pick.nd (fun h => ?_) (fun h => ?_) | refine Pick.mk (fun h => ?_) (fun h => ?_) | refine Cond.mk (fun h => ?_) (fun h => ?_)) <;> conv => whnf))
        rw [e1]
        apply hw [0, 1, 5] [false, true, false, true, false, true, false, false, true, false, false, false, false, false, false, false, false, true, true, true] _ _ rfl
        exact nxt _
    have turnA : ∀ (i : Nat) (ks : List Int), i = 0 → ks = [] → I [.und, .int .i64 sec, .und, .ptr 0 0, .und, .ptr 1 0, .und, .und, .nils, .und, .und, .und, .und, .und, .und, .und, .und, .ext 17 as1.length (Xp.rows as1), .int .i64 (as1.length : Int), .int .i64 (i : Int), .und, .und, .und, .und, .und, .und, .und, .und, .und, .und, .und, .und, .und, .und, .und, .und, .und, .und, .und, .und, .und, .und, .und, .und, .und, .und, .und, .und, .und, .und, .und, .und, .und, .und, .und, .und, .und, .und, .und, .und, .und, .und, .und, .und, .und, .und, .und, .und, .und, .und, .und, .und, .und, .und, .und, .und, .und, .und, .und, .und, .und, .und, .und, .und, .und, .und, .und, .und, .und, .und, .und, .und, .und, .und, .und, .und, .und, .und, .und, .und, .und, .und, .und, .und, .und, .und, .und, .und, .und, .und, .und, .und, .und, .und, .und, .und, .und, .und, .und, .und, .und, .und, .und, .und, .und, .und, .und, .und, .und, .und, .und, .und, .und, .und, .und, .und, .und, .und, .und, .und, .und, .und, .und, .und, .und, .und, .und, .und, .und] [.cells (cAs d l), .cells (hdX k o n s v sc p ++ [.ext 17 as1.length (Xp.rows as1)])] := by
      intro i ks hi0 hk0
      rcases Nat.eq_zero_or_pos as1.length with ha | ha
      · have e0 : as1 = [] := List.eq_nil_of_length_eq_zero ha
        rw [e0, kindsF_nil, if_neg (by simp)] at hr
        have hr : headF d.tabs l sec k o n s v sc p as1.length ks = r := by rw [e0, hk0]; exact hr
        subst hk0
        obtain ⟨ks, hk0⟩ : ∃ ks : List Int, ks = [] := ⟨_, rfl⟩
        rw [← hk0] at hr
        subst hi0
        subst hk0
        have hks : ([] : List Int).length ≤ maxLen := by simp
        have hle : (.nils : Val).le (eL 1 cI ([] : List Int)) := le_nils
        unfold headF at hr
        by_cases k1 : k = 1
        · rw [if_pos k1] at hr
          have ho := only_any v.kind _ .nils ([] : List Int) [] hle le_nils hks (by simp)
          by_cases hc : constE v ≠ 0
          · rw [if_pos hc] at hr
            subst hr
            generalize constE v = ce at *
            apply hs
            conv => whnf
            refine Cond.ff (decF (by omega)) ?_
            (conv => whnf) <;> repeat' (first | ((first | refine wN ?_ | refine wA ?_ | refine wB ?_ | refine wC ?_ | refine wD ?_ | refine Called.mk _ _ (hC) ?_ | refine vA ?_ | refine vB ?_ | refine vC ?_ | refine vD ?_ | refine uA ?_ | refine uB ?_ | refine uC ?_ | refine uD ?_); conv => whnf) | ((first | refine Pick.dec (fun h => ?_) (fun h => ?_) | refine Pick.beq (fun h => ?_) (fun h => ?_) | refine Cond.dec (fun h => ?_) (fun h => ?_) | refine Cond.beq (fun h => ?_) (fun h => ?_) | refine Cond.nd (fun h => ?_) (fun h => ?_) | refine Pick.nd (fun h => ?_) (fun h => ?_) | refine Pick.mk (fun h => ?_) (fun h => ?_) | refine Cond.mk (fun h => ?_) (fun h => ?_)) <;> conv => whnf))
            exact End.mk rfl rfl
          · rw [if_neg hc] at hr
            have hc : constE v = 0 := by simpa using hc
            rw [hc] at hC
            generalize onlyF v.kind ([] : List Int) [] = q at *
            subst hr
            apply hs
            conv => whnf
            refine Cond.ff (decF (by omega)) ?_
            (conv => whnf) <;> repeat' (first | ((first | refine wN ?_ | refine wA ?_ | refine wB ?_ | refine wC ?_ | refine wD ?_ | refine Called.mk _ _ (hC) ?_ | refine Called.mk _ _ (ho) ?_ | refine vA ?_ | refine vB ?_ | refine vC ?_ | refine vD ?_ | refine uA ?_ | refine uB ?_ | refine uC ?_ | refine uD ?_); conv => whnf) | ((first | refine Pick.dec (fun h => ?_) (fun h => ?_) | refine Pick.beq (fun h => ?_) (fun h => ?_) | refine Cond.dec (fun h => ?_) (fun h => ?_) | refine Cond.beq (fun h => ?_) (fun h => ?_) | refine Cond.nd (fun h => ?_) (fun h => ?_) | refine Pick.nd (fun h => ?_) (fun h => ?_) | refine Pick.mk (fun h => ?_) (fun h => ?_) | refine Cond.mk (fun h => ?_) (fun h => ?_)) <;> conv => whnf))
            exact End.mk rfl rfl
        rw [if_neg k1] at hr
        by_cases k2 : k = 2
        · rw [if_pos k2] at hr
          generalize nameF l sec n as1.length = q at *
          subst hr
          apply hs
          conv => whnf
          refine Cond.ff (decF (by omega)) ?_
          (conv => whnf) <;> repeat' (first | ((first | refine wN ?_ | refine wA ?_ | refine wB ?_ | refine wC ?_ | refine wD ?_ | refine Called.mk _ _ (hN) ?_ | refine vA ?_ | refine vB ?_ | refine vC ?_ | refine vD ?_ | refine uA ?_ | refine uB ?_ | refine uC ?_ | refine uD ?_); conv => whnf) | ((first | refine Pick.dec (fun h => ?_) (fun h => ?_) | refine Pick.beq (fun h => ?_) (fun h => ?_) | refine Cond.dec (fun h => ?_) (fun h => ?_) | refine Cond.beq (fun h => ?_) (fun h => ?_) | refine Cond.nd (fun h => ?_) (fun h => ?_) | refine Pick.nd (fun h => ?_) (fun h => ?_) | refine Pick.mk (fun h => ?_) (fun h => ?_) | refine Cond.mk (fun h => ?_) (fun h => ?_)) <;> conv => whnf))
          exact End.mk rfl rfl
        rw [if_neg k2] at hr
        by_cases k3 : k = 3
        · rw [if_pos k3] at hr
          have ho := fun (g : Nat → List Val) (hg : g 0 = cI 1) => only_any 1 _ (.ext 1 1 g) ([] : List Int) [1] hle (le_one hg) hks (by decide)
          generalize onlyF 1 ([] : List Int) [1] = q at *
          subst hr
          apply hs
          conv => whnf
          refine Cond.ff (decF (by omega)) ?_
          (conv => whnf) <;> repeat' (first | ((first | refine wN ?_ | refine wA ?_ | refine wB ?_ | refine wC ?_ | refine wD ?_ | refine Called.mk _ _ (ho _ rfl) ?_ | refine vA ?_ | refine vB ?_ | refine vC ?_ | refine vD ?_ | refine uA ?_ | refine uB ?_ | refine uC ?_ | refine uD ?_); conv => whnf) | ((first | refine Pick.dec (fun h => ?_) (fun h => ?_) | refine Pick.beq (fun h => ?_) (fun h => ?_) | refine Cond.dec (fun h => ?_) (fun h => ?_) | refine Cond.beq (fun h => ?_) (fun h => ?_) | refine Cond.nd (fun h => ?_) (fun h => ?_) | refine Pick.nd (fun h => ?_) (fun h => ?_) | refine Pick.mk (fun h => ?_) (fun h => ?_) | refine Cond.mk (fun h => ?_) (fun h => ?_)) <;> conv => whnf))
          exact End.mk rfl rfl
        rw [if_neg k3] at hr
        by_cases k4 : k = 4
        · rw [if_pos k4] at hr
          have ho := fun (g : Nat → List Val) (hg : g 0 = cI 2) => only_any 2 _ (.ext 1 1 g) ([] : List Int) [2] hle (le_one hg) hks (by decide)
          generalize onlyF 2 ([] : List Int) [2] = q at *
          subst hr
          apply hs
          conv => whnf
          refine Cond.ff (decF (by omega)) ?_
          (conv => whnf) <;> repeat' (first | ((first | refine wN ?_ | refine wA ?_ | refine wB ?_ | refine wC ?_ | refine wD ?_ | refine Called.mk _ _ (ho _ rfl) ?_ | refine vA ?_ | refine vB ?_ | refine vC ?_ | refine vD ?_ | refine uA ?_ | refine uB ?_ | refine uC ?_ | refine uD ?_); conv => whnf) | ((first | refine Pick.dec (fun h => ?_) (fun h => ?_) | refine Pick.beq (fun h => ?_) (fun h => ?_) | refine Cond.dec (fun h => ?_) (fun h => ?_) | refine Cond.beq (fun h => ?_) (fun h => ?_) | refine Cond.nd (fun h => ?_) (fun h => ?_) | refine Pick.nd (fun h => ?_) (fun h => ?_) | refine Pick.mk (fun h => ?_) (fun h => ?_) | refine Cond.mk (fun h => ?_) (fun h => ?_)) <;> conv => whnf))
          exact End.mk rfl rfl
        rw [if_neg k4] at hr
        by_cases k9 : k = 9
        · rw [if_pos k9] at hr
          by_cases hq : ([] : List Int).length = 1
          · rw [if_pos hq] at hr
            exfalso; simp at hq
          · rw [if_neg hq] at hr
            subst hr
            apply hs
            conv => whnf
            refine Cond.ff (decF (by omega)) ?_
            (conv => whnf) <;> repeat' (first | ((first | refine wN ?_ | refine wA ?_ | refine wB ?_ | refine wC ?_ | refine wD ?_ | refine vA ?_ | refine vB ?_ | refine vC ?_ | refine vD ?_ | refine uA ?_ | refine uB ?_ | refine uC ?_ | refine uD ?_); conv => whnf) | ((first | refine Pick.dec (fun h => ?_) (fun h => ?_) | refine Pick.beq (fun h => ?_) (fun h => ?_) | refine Cond.dec (fun h => ?_) (fun h => ?_) | refine Cond.beq (fun h => ?_) (fun h => ?_) | refine Cond.nd (fun h => ?_) (fun h => ?_) | refine Pick.nd (fun h => ?_) (fun h => ?_) | refine Pick.mk (fun h => ?_) (fun h => ?_) | refine Cond.mk (fun h => ?_) (fun h => ?_)) <;> conv => whnf))
            exact End.mk rfl rfl
        rw [if_neg k9] at hr
        by_cases k5 : k = 5
        · rw [if_pos k5] at hr
          by_cases hq : ([] : List Int).length = 2
          · rw [if_pos hq] at hr
            exfalso; simp at hq
          · rw [if_neg hq] at hr
            subst hr
            apply hs
            conv => whnf
            refine Cond.ff (decF (by omega)) ?_
            (conv => whnf) <;> repeat' (first | ((first | refine wN ?_ | refine wA ?_ | refine wB ?_ | refine wC ?_ | refine wD ?_ | refine vA ?_ | refine vB ?_ | refine vC ?_ | refine vD ?_ | refine uA ?_ | refine uB ?_ | refine uC ?_ | refine uD ?_); conv => whnf) | ((first | refine Pick.dec (fun h => ?_) (fun h => ?_) | refine Pick.beq (fun h => ?_) (fun h => ?_) | refine Cond.dec (fun h => ?_) (fun h => ?_) | refine Cond.beq (fun h => ?_) (fun h => ?_) | refine Cond.nd (fun h => ?_) (fun h => ?_) | refine Pick.nd (fun h => ?_) (fun h => ?_) | refine Pick.mk (fun h => ?_) (fun h => ?_) | refine Cond.mk (fun h => ?_) (fun h => ?_)) <;> conv => whnf))
            exact End.mk rfl rfl
        rw [if_neg k5] at hr
        by_cases k6 : k = 6
        · rw [if_pos k6] at hr
          by_cases hq : ([] : List Int).length = 3
          · rw [if_pos hq] at hr
            exfalso; simp at hq
          · rw [if_neg hq] at hr
            subst hr
            apply hs
            conv => whnf
            refine Cond.ff (decF (by omega)) ?_
            (conv => whnf) <;> repeat' (first | ((first | refine wN ?_ | refine wA ?_ | refine wB ?_ | refine wC ?_ | refine wD ?_ | refine vA ?_ | refine vB ?_ | refine vC ?_ | refine vD ?_ | refine uA ?_ | refine uB ?_ | refine uC ?_ | refine uD ?_); conv => whnf) | ((first | refine Pick.dec (fun h => ?_) (fun h => ?_) | refine Pick.beq (fun h => ?_) (fun h => ?_) | refine Cond.dec (fun h => ?_) (fun h => ?_) | refine Cond.beq (fun h => ?_) (fun h => ?_) | refine Cond.nd (fun h => ?_) (fun h => ?_) | refine Pick.nd (fun h => ?_) (fun h => ?_) | refine Pick.mk (fun h => ?_) (fun h => ?_) | refine Cond.mk (fun h => ?_) (fun h => ?_)) <;> conv => whnf))
            exact End.mk rfl rfl
        rw [if_neg k6] at hr
        by_cases k7 : k = 7
        · rw [if_pos k7] at hr
          have ho := round_any k o n s v sc p as1 _ ([] : List Int) hle hks
          rw [cE_mk] at ho
          generalize roundF sc p ([] : List Int) = q at *
          subst hr
          apply hs
          conv => whnf
          refine Cond.ff (decF (by omega)) ?_
          (conv => whnf) <;> repeat' (first | ((first | refine wN ?_ | refine wA ?_ | refine wB ?_ | refine wC ?_ | refine wD ?_ | refine Called.mk _ _ (ho) ?_ | refine vA ?_ | refine vB ?_ | refine vC ?_ | refine vD ?_ | refine uA ?_ | refine uB ?_ | refine uC ?_ | refine uD ?_); conv => whnf) | ((first | refine Pick.dec (fun h => ?_) (fun h => ?_) | refine Pick.beq (fun h => ?_) (fun h => ?_) | refine Cond.dec (fun h => ?_) (fun h => ?_) | refine Cond.beq (fun h => ?_) (fun h => ?_) | refine Cond.nd (fun h => ?_) (fun h => ?_) | refine Pick.nd (fun h => ?_) (fun h => ?_) | refine Pick.mk (fun h => ?_) (fun h => ?_) | refine Cond.mk (fun h => ?_) (fun h => ?_)) <;> conv => whnf))
          exact End.mk rfl rfl
        rw [if_neg k7] at hr
        by_cases k8 : k = 8
        · rw [if_pos k8] at hr
          have ho := fun (g : Nat → List Val) (hg : g 0 = cI 1) => only_any 1 _ (.ext 1 1 g) ([] : List Int) [1] hle (le_one hg) hks (by decide)
          by_cases hj : 0 ≤ idxT n 0 d.tabs
          · rw [if_pos hj] at hr
            have e : tableF d.tabs n = (idxT n 0 d.tabs, true) := if_pos hj
            rw [e] at hT
            generalize idxT n 0 d.tabs = j at *
            generalize onlyF 1 ([] : List Int) [1] = q at *
            subst hr
            apply hs
            conv => whnf
            refine Cond.ff (decF (by omega)) ?_
            (conv => whnf) <;> repeat' (first | ((first | refine wN ?_ | refine wA ?_ | refine wB ?_ | refine wC ?_ | refine wD ?_ | refine Called.mk _ _ (hT) ?_ | refine Called.mk _ _ (ho _ rfl) ?_ | refine vA ?_ | refine vB ?_ | refine vC ?_ | refine vD ?_ | refine uA ?_ | refine uB ?_ | refine uC ?_ | refine uD ?_); conv => whnf) | ((first | refine Pick.dec (fun h => ?_) (fun h => ?_) | refine Pick.beq (fun h => ?_) (fun h => ?_) | refine Cond.dec (fun h => ?_) (fun h => ?_) | refine Cond.beq (fun h => ?_) (fun h => ?_) | refine Cond.nd (fun h => ?_) (fun h => ?_) | refine Pick.nd (fun h => ?_) (fun h => ?_) | refine Pick.mk (fun h => ?_) (fun h => ?_) | refine Cond.mk (fun h => ?_) (fun h => ?_)) <;> conv => whnf))
            exact End.mk rfl rfl
          · rw [if_neg hj] at hr
            have e : tableF d.tabs n = (0, false) := if_neg hj
            rw [e] at hT
            subst hr
            apply hs
            conv => whnf
            refine Cond.ff (decF (by omega)) ?_
            (conv => whnf) <;> repeat' (first | ((first | refine wN ?_ | refine wA ?_ | refine wB ?_ | refine wC ?_ | refine wD ?_ | refine Called.mk _ _ (hT) ?_ | refine vA ?_ | refine vB ?_ | refine vC ?_ | refine vD ?_ | refine uA ?_ | refine uB ?_ | refine uC ?_ | refine uD ?_); conv => whnf) | ((first | refine Pick.dec (fun h => ?_) (fun h => ?_) | refine Pick.beq (fun h => ?_) (fun h => ?_) | refine Cond.dec (fun h => ?_) (fun h => ?_) | refine Cond.beq (fun h => ?_) (fun h => ?_) | refine Cond.nd (fun h => ?_) (fun h => ?_) | refine Pick.nd (fun h => ?_) (fun h => ?_) | refine Pick.mk (fun h => ?_) (fun h => ?_) | refine Cond.mk (fun h => ?_) (fun h => ?_)) <;> conv => whnf))
            exact End.mk rfl rfl
        rw [if_neg k8] at hr
        by_cases k10 : k = 10
        · rw [if_pos k10] at hr
          generalize aggF l sec o n s as1.length = q at *
          subst hr
          apply hs
          conv => whnf
          refine Cond.ff (decF (by omega)) ?_
          (conv => whnf) <;> repeat' (first | ((first | refine wN ?_ | refine wA ?_ | refine wB ?_ | refine wC ?_ | refine wD ?_ | refine Called.mk _ _ (hA) ?_ | refine vA ?_ | refine vB ?_ | refine vC ?_ | refine vD ?_ | refine uA ?_ | refine uB ?_ | refine uC ?_ | refine uD ?_); conv => whnf) | ((first | refine Pick.dec (fun h => ?_) (fun h => ?_) | refine Pick.beq (fun h => ?_) (fun h => ?_) | refine Cond.dec (fun h => ?_) (fun h => ?_) | refine Cond.beq (fun h => ?_) (fun h => ?_) | refine Cond.nd (fun h => ?_) (fun h => ?_) | refine Pick.nd (fun h => ?_) (fun h => ?_) | refine Pick.mk (fun h => ?_) (fun h => ?_) | refine Cond.mk (fun h => ?_) (fun h => ?_)) <;> conv => whnf))
          exact End.mk rfl rfl
        rw [if_neg k10] at hr
        subst hr
        apply hs
        conv => whnf
        refine Cond.ff (decF (by omega)) ?_
        (conv => whnf) <;> repeat' (first | ((first | refine wN ?_ | refine wA ?_ | refine wB ?_ | refine wC ?_ | refine wD ?_ | refine vA ?_ | refine vB ?_ | refine vC ?_ | refine vD ?_ | refine uA ?_ | refine uB ?_ | refine uC ?_ | refine uD ?_); conv => whnf) | ((first | refine Pick.dec (fun h => ?_) (fun h => ?_) | refine Pick.beq (fun h => ?_) (fun h => ?_) | refine Cond.dec (fun h => ?_) (fun h => ?_) | refine Cond.beq (fun h => ?_) (fun h => ?_) | refine Cond.nd (fun h => ?_) (fun h => ?_) | refine Pick.nd (fun h => ?_) (fun h => ?_) | refine Pick.mk (fun h => ?_) (fun h => ?_) | refine Cond.mk (fun h => ?_) (fun h => ?_)) <;> conv => whnf))
        exact End.mk rfl rfl
      · subst hk0
        have hd0 : as1 = as1.drop i := by rw [hi0]; rfl
        rw [hd0] at hr
        have hl0 : (as1.drop i).length = as1.length := by rw [← hd0]
        rw [hl0] at hr
        have hil : i < as1.length := by omega
        have gk : Xp.rows as1 (Int.toNat (i : Int)) = cE as1[i] := by rw [Int.toNat_natCast]; exact (Xp.rows_ext as1).2 i hil
        have e1 : IntKind.i64.wrap ((i : Int) + 1) = ((i + 1 : Nat) : Int) := by rw [wi64_id (by omega) (by omega)]; omega
        have hc := ih as1[i] (List.getElem_mem hil)
        rw [List.drop_eq_getElem_cons hil] at hr
        generalize as1[i] = y at *
        by_cases he : (kindF d.tabs l sec y).2 ≠ 0
        · rw [kindsF_bad he, if_pos he] at hr
          generalize kindF d.tabs l sec y = q at *
          subst hr
          apply hs
          conv => whnf
          refine Cond.tt (decT (by omega)) ?_
          (conv => whnf) <;> repeat' (first | ((conv => arg 1; whnf); rw [gk]; conv => whnf) | ((first | refine wN ?_ | refine wA ?_ | refine wB ?_ | refine wC ?_ | refine wD ?_ | refine Called.mk _ _ (hc) ?_ | refine vA ?_ | refine vB ?_ | refine vC ?_ | refine vD ?_ | refine uA ?_ | refine uB ?_ | refine uC ?_ | refine uD ?_); conv => whnf) | ((first | refine Pick.dec (fun h => ?_) (fun h => ?_) | refine Pick.beq (fun h => ?_) (fun h => ?_) | refine Cond.dec (fun h => ?_) (fun h => ?_) | refine Cond.beq (fun h => ?_) (fun h => ?_) | refine Cond.nd (fun h => ?_) (fun h => ?_) | refine Pick.nd (fun h => ?_) (fun h => ?_) | refine Pick.mk (fun h => ?_) (fun h => ?_) | refine Cond.mk (fun h => ?_) (fun h => ?_)) <;> conv => whnf))
          exact End.mk rfl rfl
        have he : (kindF d.tabs l sec y).2 = 0 := by simpa using he
        rw [kindsF_ok he] at hr
        rw [he] at hc
        generalize (kindF d.tabs l sec y).1 = q at *
        have hr2 : (if (kindsF d.tabs l sec (as1.drop (i + 1))).1 ≠ 0 then (0, (kindsF d.tabs l sec (as1.drop (i + 1))).1) else headF d.tabs l sec k o n s v sc p as1.length (([q]) ++ (kindsF d.tabs l sec (as1.drop (i + 1))).2)) = r := by
          rw [← hr]
          by_cases hz : (kindsF d.tabs l sec (as1.drop (i + 1))).1 ≠ 0
          · rw [if_pos hz, if_pos hz, if_pos hz]
          · rw [if_neg hz, if_neg hz, if_neg (by simp)]
            simp
        have nxt := fun pr => turnB (as1.length - (i + 1)) (i + 1) [q] pr (by omega) (by simp [hi0]) (by simp) hr2
        apply hs
        conv => whnf
        refine Cond.tt (decT (by omega)) ?_
        (conv => whnf) <;> repeat' (first | ((conv => arg 1; whnf); rw [gk]; conv => whnf) | (rw [getI_one]; conv => whnf) | ((first | refine wN ?_ | refine wA ?_ | refine wB ?_ | refine wC ?_ | refine wD ?_ | refine Called.mk _ _ (hc) ?_ | refine vA ?_ | refine vB ?_ | refine vC ?_ | refine vD ?_ | refine uA ?_ | refine uB ?_ | refine uC ?_ | refine uD ?_); conv => whnf) | ((first | refine Pick.dec (fun h => ?_) (fun h => ?_) | refine Pick.beq (fun h => ?_) (fun h => ?_) | refine Cond.dec (fun h => ?_) (fun h => ?_) | refine Cond.beq (fun h => ?_) (fun h => ?_) | refine Cond.nd (fun h => ?_) (fun h => ?_) | refine Pick.nd (fun h => ?_) (fun h => ?_) | refine Pick.mk (fun h => ?_) (fun h => ?_) | refine Cond.mk (fun h => ?_) (fun h => ?_)) <;> conv => whnf))
        rw [e1]
        apply hw [0, 1, 4] [false, true, false, true, false, true, false, false, true, false, false, false, false, false, false, false, false, true, true, true] _ _ rfl
        exact nxt _
    apply hw [0, 1] [false, true, false, true, false, true, false, false, true, false, false, false, false, false, false, false, false, true, true, true] _ _ rfl
    exact turnA 0 [] rfl rfl
  exact goal _ rfl
end Go.Proofs.Ytkglccolonpnlaa

