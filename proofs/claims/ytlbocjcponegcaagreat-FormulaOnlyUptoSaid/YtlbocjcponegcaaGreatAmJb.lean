/- FormulaOnly, as a contract, live being so. Printed by wip/tools/onlygen.py. -/
import Derived.Test.YtlbocjcponegcaaGreatAmIz
import Derived.Test.YtlbocjcponegcaaGreatAmJa
import Derived.Test.YtlbocjcponegcaaGreatAmHm
import Derived.Test.YtlbocjcponegcaaGreatAmHi
set_option linter.unusedVariables false
set_option linter.unusedSimpArgs false
set_option maxRecDepth 100000
namespace Go.Proofs.YtlbocjcponegcaaGreat
open Go.AM
set_option maxHeartbeats 8000000 in
theorem fonly_tt (hlive : Ret Tryz.prog 11 [] [] (.bool true) []) (k o : Int) (n s : ByteArray) (v : Vl) (sc p : Int) (l : List Xp) (r : Rd) (e : EnvS) (ok : EnvOk true true e) (ns : List ByteArray) (cs : List CK) (w : Vl) (hnl : ns.length ≤ 1048576) (hcl : cs.length ≤ 1048576)
    (hF : Ret Tryz.prog 10 [.agg [.int .i64 k, .int .i64 o, .str n, .str s, .int .i64 v.kind, .bool v.num.neg, .int .u64 (l0 v.num.n), .int .u64 (l1 v.num.n), .int .u64 (l2 v.num.n), .int .u64 (l3 v.num.n), .int .i64 v.num.scale, .bool v.flag, .str v.text, .int .i64 v.err, .int .i64 sc, .int .i64 p, .ext 17 l.length (Xp.rows l)]] [] (.bool true) [])
    (hV : Ret Tryz.prog 12 [eRd r] [] (envV true true e) (envH true true e))
    (n1 : Ret Tryz.prog 22 [.agg [.int .i64 k, .int .i64 o, .str n, .str s, .int .i64 v.kind, .bool v.num.neg, .int .u64 (l0 v.num.n), .int .u64 (l1 v.num.n), .int .u64 (l2 v.num.n), .int .u64 (l3 v.num.n), .int .i64 v.num.scale, .bool v.flag, .str v.text, .int .i64 v.err, .int .i64 sc, .int .i64 p, .ext 17 l.length (Xp.rows l)]] [] (eL 1 cN ns) []) (c1 : Ret Tryz.prog 25 [.agg [.int .i64 k, .int .i64 o, .str n, .str s, .int .i64 v.kind, .bool v.num.neg, .int .u64 (l0 v.num.n), .int .u64 (l1 v.num.n), .int .u64 (l2 v.num.n), .int .u64 (l3 v.num.n), .int .i64 v.num.scale, .bool v.flag, .str v.text, .int .i64 v.err, .int .i64 sc, .int .i64 p, .ext 17 l.length (Xp.rows l)]] [] (eL 2 cK cs) [])
    (h1 : Ret Tryz.prog 13 [.agg [.int .i64 k, .int .i64 o, .str n, .str s, .int .i64 v.kind, .bool v.num.neg, .int .u64 (l0 v.num.n), .int .u64 (l1 v.num.n), .int .u64 (l2 v.num.n), .int .u64 (l3 v.num.n), .int .i64 v.num.scale, .bool v.flag, .str v.text, .int .i64 v.err, .int .i64 sc, .int .i64 p, .ext 17 l.length (Xp.rows l)], envV true true e] (envH true true e) (eV w) (envH true true e))
    (h3 : Ret Tryz.prog 13 [.agg [.int .i64 k, .int .i64 o, .str n, .str s, .int .i64 v.kind, .bool v.num.neg, .int .u64 (l0 v.num.n), .int .u64 (l1 v.num.n), .int .u64 (l2 v.num.n), .int .u64 (l3 v.num.n), .int .i64 v.num.scale, .bool v.flag, .str v.text, .int .i64 v.err, .int .i64 sc, .int .i64 p, .ext 17 l.length (Xp.rows l)], envV false false ⟨ownG e.names ns [], ownG e.cols cs [], e.tabs⟩] (envH false false ⟨ownG e.names ns [], ownG e.cols cs [], e.tabs⟩) (eV w) (envH false false ⟨ownG e.names ns [], ownG e.cols cs [], e.tabs⟩)) :
    Ret Tryz.prog 9 [.agg [.int .i64 k, .int .i64 o, .str n, .str s, .int .i64 v.kind, .bool v.num.neg, .int .u64 (l0 v.num.n), .int .u64 (l1 v.num.n), .int .u64 (l2 v.num.n), .int .u64 (l3 v.num.n), .int .i64 v.num.scale, .bool v.flag, .str v.text, .int .i64 v.err, .int .i64 sc, .int .i64 p, .ext 17 l.length (Xp.rows l)], eRd r] [] (.bool true) [] := by
  refine ret_of_body atCalls tok mixed Tryz.func9 (by kernel_rfl) rfl (k := 77) (rs := [.tmp 4]) (by kernel_rfl) (by kernel_rfl) ?_
  (conv => whnf) <;> repeat' (first | ((first | refine wN ?_ | refine wNc ?_ | refine wA ?_ | refine wB ?_ | refine wC ?_ | refine wD ?_ | refine Called.mk _ _ (hF) ?_ | refine Called.mk _ _ (hlive) ?_ | refine Called.mk _ _ (hV) ?_ | refine Called.mk _ _ (n1) ?_ | refine vA ?_ | refine vB ?_ | refine vC ?_ | refine vD ?_ | refine uA ?_ | refine uB ?_ | refine uC ?_ | refine uD ?_); conv => whnf) | ((first | apply Pick.dec | apply Pick.beq | apply Cond.dec | apply Cond.beq | apply Cond.nd | apply Pick.nd | apply Pick.mk | apply Cond.mk) <;> intro h <;> conv => whnf))
  intro I jw js
  have turn : ∀ (d i : Nat) (m : List (ByteArray × Vl)), i + d = ns.length → ownG e.names (ns.drop i) m = ownG e.names ns [] → I [.und, .und, .ptr 0 0, .und, .und, .ptr 2 0, .ptr 5 0, .und, .und, .und, .und, .und, .und, .und, .und, .und, .und, .und, .und, .und, .und, .und, .und, .und, .und, .und, .und, .und, .und, .und, .und, eL 1 cN ns, .int .i64 (ns.length : Int), .int .i64 (i : Int), .und, .und, .und, .und, .und, .und, .und, .und, .und, .und, .und, .und, .und, .und, .und, .und, .und, .und, .und, .und, .und, .und, .und, .und, .und, .und, .und, .und, .und, .und, .und, .und, .und, .und, .und, .und, .und, .und, .und, .und, .und, .und, .und] [.cells [.int .i64 k, .int .i64 o, .str n, .str s, .int .i64 v.kind, .bool v.num.neg, .int .u64 (l0 v.num.n), .int .u64 (l1 v.num.n), .int .u64 (l2 v.num.n), .int .u64 (l3 v.num.n), .int .i64 v.num.scale, .bool v.flag, .str v.text, .int .i64 v.err, .int .i64 sc, .int .i64 p, .ext 17 l.length (Xp.rows l)], .cells [eL 11 cNm r.names, eL 26 cCo r.cols, eL 2 cTb r.tabs], .cells [.nilm, .nilm, eL 2 cTb e.tabs], .map false true [.s] (encM kN cV m), .map true true [.s, .s] (encM kC cCl []), .cells [.map 3, .map 4, eL 2 cTb e.tabs]] := by
    intro d
    induction d with
    | zero =>
      intro i m hi hf
      rw [List.drop_of_length_le (by omega)] at hf
      have hf : m = ownG e.names ns [] := hf
      subst hf
      apply js
      conv => whnf
      refine Cond.ff (decF (by omega)) ?_
      (conv => whnf) <;> repeat' (first | ((first | refine wN ?_ | refine wNc ?_ | refine wA ?_ | refine wB ?_ | refine wC ?_ | refine wD ?_ | refine Called.mk _ _ (c1) ?_ | refine vA ?_ | refine vB ?_ | refine vC ?_ | refine vD ?_ | refine uA ?_ | refine uB ?_ | refine uC ?_ | refine uD ?_); conv => whnf) | ((first | apply Pick.dec | apply Pick.beq | apply Cond.dec | apply Cond.beq | apply Cond.nd | apply Pick.nd | apply Pick.mk | apply Cond.mk) <;> intro h <;> conv => whnf))
      intro I jw js
      have turn : ∀ (d i : Nat) (m : List (CK × Cl)), i + d = cs.length → ownG e.cols (cs.drop i) m = ownG e.cols cs [] → I [.und, .und, .ptr 0 0, .und, .und, .ptr 2 0, .ptr 5 0, .und, .und, .und, .und, .und, .und, .und, .und, .und, .und, .und, .und, .und, .und, .und, .und, .und, .und, .und, .und, .und, .und, .und, .und, .und, .und, .und, .und, .und, .und, .und, .und, .und, .und, .und, .und, .und, .und, .und, .und, .und, .und, .und, .und, eL 2 cK cs, .int .i64 (cs.length : Int), .int .i64 (i : Int), .und, .und, .und, .und, .und, .und, .und, .und, .und, .und, .und, .und, .und, .und, .und, .und, .und, .und, .und, .und, .und, .und, .und] [.cells [.int .i64 k, .int .i64 o, .str n, .str s, .int .i64 v.kind, .bool v.num.neg, .int .u64 (l0 v.num.n), .int .u64 (l1 v.num.n), .int .u64 (l2 v.num.n), .int .u64 (l3 v.num.n), .int .i64 v.num.scale, .bool v.flag, .str v.text, .int .i64 v.err, .int .i64 sc, .int .i64 p, .ext 17 l.length (Xp.rows l)], .cells [eL 11 cNm r.names, eL 26 cCo r.cols, eL 2 cTb r.tabs], .cells [.nilm, .nilm, eL 2 cTb e.tabs], .map false true [.s] (encM kN cV (ownG e.names ns [])), .map true true [.s, .s] (encM kC cCl m), .cells [.map 3, .map 4, eL 2 cTb e.tabs]] := by
        intro d
        induction d with
        | zero =>
          intro i m hi hf
          rw [List.drop_of_length_le (by omega)] at hf
          have hf : m = ownG e.cols cs [] := hf
          subst hf
          apply js
          conv => whnf
          refine Cond.ff (decF (by omega)) ?_
          (conv => whnf) <;> repeat' (first | (refine CalledH.mk [3, 4] _ _ rfl (Nat.le_refl _) h3 ?_; conv => whnf) | (rw [eqV]; conv => whnf) | ((first | refine wN ?_ | refine wNc ?_ | refine wA ?_ | refine wB ?_ | refine wC ?_ | refine wD ?_ | refine Called.mk _ _ (h1) ?_ | refine vA ?_ | refine vB ?_ | refine vC ?_ | refine vD ?_ | refine uA ?_ | refine uB ?_ | refine uC ?_ | refine uD ?_); conv => whnf) | ((first | apply Pick.dec | apply Pick.beq | apply Cond.dec | apply Cond.beq | apply Cond.nd | apply Pick.nd | apply Pick.mk | apply Cond.mk) <;> intro h <;> conv => whnf))
          exact End.mk (bool_eq (by simp)) rfl
        | succ d im =>
          intro i m hi hf
          have hil : i < cs.length := by omega
          have gk : getL cK cs (Int.toNat (i : Int)) = cK cs[i] := by rw [Int.toNat_natCast]; exact getL_at (List.getElem?_eq_getElem hil)
          have e1 : IntKind.i64.wrap ((i : Int) + 1) = ((i + 1 : Nat) : Int) := by rw [wi64_id (by omega) (by omega)]; omega
          rw [List.drop_eq_getElem_cons hil] at hf
          have hf : ownG e.cols (cs.drop (i + 1)) (ownP e.cols cs[i] m) = ownG e.cols cs [] := hf
          have im := im (i + 1)
          generalize cs[i] = y at *
          apply js
          conv => whnf
          refine Cond.tt (decT (by omega)) ?_
          · cases hg : aget y e.cols with
            | some u => rw [ok.cols rfl] at hg; cases hg
            | none =>
              have hO : ownP e.cols y m = m := by unfold ownP; rw [hg]
              rw [hO] at hf
              have im := im m (by omega) hf
              (conv => whnf) <;> repeat' (first | ((conv => arg 1; whnf); rw [gk]; conv => whnf) | ((first | refine wN ?_ | refine wNc ?_ | refine wA ?_ | refine wB ?_ | refine wC ?_ | refine wD ?_ | refine vA ?_ | refine vB ?_ | refine vC ?_ | refine vD ?_ | refine uA ?_ | refine uB ?_ | refine uC ?_ | refine uD ?_); conv => whnf) | ((first | apply Pick.dec | apply Pick.beq | apply Cond.dec | apply Cond.beq | apply Cond.nd | apply Pick.nd | apply Pick.mk | apply Cond.mk) <;> intro h <;> conv => whnf))
              all_goals (rw [e1]; apply jw [0, 1, 2, 3, 4, 5] [false, false, true, false, false, true, true, false, false, false, false, false, false, false, false, false, false, false, false, false, false, false, false, false, false, false, false, false, false, false, false, false, false, false, false, false, false, false, false, false, false, false, false, false, false, false, false, false, false, false, false, true, true, true] _ _ rfl; exact im)
      apply jw [0, 1, 2, 3, 4, 5] [false, false, true, false, false, true, true, false, false, false, false, false, false, false, false, false, false, false, false, false, false, false, false, false, false, false, false, false, false, false, false, false, false, false, false, false, false, false, false, false, false, false, false, false, false, false, false, false, false, false, false, true, true, true] _ _ rfl
      exact turn cs.length 0 [] (by omega) rfl
    | succ d im =>
      intro i m hi hf
      have hil : i < ns.length := by omega
      have gk : getL cN ns (Int.toNat (i : Int)) = cN ns[i] := by rw [Int.toNat_natCast]; exact getL_at (List.getElem?_eq_getElem hil)
      have e1 : IntKind.i64.wrap ((i : Int) + 1) = ((i + 1 : Nat) : Int) := by rw [wi64_id (by omega) (by omega)]; omega
      rw [List.drop_eq_getElem_cons hil] at hf
      have hf : ownG e.names (ns.drop (i + 1)) (ownP e.names ns[i] m) = ownG e.names ns [] := hf
      have im := im (i + 1)
      generalize ns[i] = y at *
      apply js
      conv => whnf
      refine Cond.tt (decT (by omega)) ?_
      · cases hg : aget y e.names with
        | some u => rw [ok.names rfl] at hg; cases hg
        | none =>
          have hO : ownP e.names y m = m := by unfold ownP; rw [hg]
          rw [hO] at hf
          have im := im m (by omega) hf
          (conv => whnf) <;> repeat' (first | ((conv => arg 1; whnf); rw [gk]; conv => whnf) | ((first | refine wN ?_ | refine wNc ?_ | refine wA ?_ | refine wB ?_ | refine wC ?_ | refine wD ?_ | refine vA ?_ | refine vB ?_ | refine vC ?_ | refine vD ?_ | refine uA ?_ | refine uB ?_ | refine uC ?_ | refine uD ?_); conv => whnf) | ((first | apply Pick.dec | apply Pick.beq | apply Cond.dec | apply Cond.beq | apply Cond.nd | apply Pick.nd | apply Pick.mk | apply Cond.mk) <;> intro h <;> conv => whnf))
          all_goals (rw [e1]; apply jw [0, 1, 2, 3, 4, 5] [false, false, true, false, false, true, true, false, false, false, false, false, false, false, false, false, false, false, false, false, false, false, false, false, false, false, false, false, false, false, false, true, true, true] _ _ rfl; exact im)
  apply jw [0, 1, 2, 3, 4, 5] [false, false, true, false, false, true, true, false, false, false, false, false, false, false, false, false, false, false, false, false, false, false, false, false, false, false, false, false, false, false, false, true, true, true] _ _ rfl
  exact turn ns.length 0 [] (by omega) rfl
set_option maxHeartbeats 8000000 in
theorem fonly_tf (hlive : Ret Tryz.prog 11 [] [] (.bool true) []) (k o : Int) (n s : ByteArray) (v : Vl) (sc p : Int) (l : List Xp) (r : Rd) (e : EnvS) (ok : EnvOk true false e) (ns : List ByteArray) (cs : List CK) (w : Vl) (hnl : ns.length ≤ 1048576) (hcl : cs.length ≤ 1048576)
    (hF : Ret Tryz.prog 10 [.agg [.int .i64 k, .int .i64 o, .str n, .str s, .int .i64 v.kind, .bool v.num.neg, .int .u64 (l0 v.num.n), .int .u64 (l1 v.num.n), .int .u64 (l2 v.num.n), .int .u64 (l3 v.num.n), .int .i64 v.num.scale, .bool v.flag, .str v.text, .int .i64 v.err, .int .i64 sc, .int .i64 p, .ext 17 l.length (Xp.rows l)]] [] (.bool true) [])
    (hV : Ret Tryz.prog 12 [eRd r] [] (envV true false e) (envH true false e))
    (n1 : Ret Tryz.prog 22 [.agg [.int .i64 k, .int .i64 o, .str n, .str s, .int .i64 v.kind, .bool v.num.neg, .int .u64 (l0 v.num.n), .int .u64 (l1 v.num.n), .int .u64 (l2 v.num.n), .int .u64 (l3 v.num.n), .int .i64 v.num.scale, .bool v.flag, .str v.text, .int .i64 v.err, .int .i64 sc, .int .i64 p, .ext 17 l.length (Xp.rows l)]] [] (eL 1 cN ns) []) (c1 : Ret Tryz.prog 25 [.agg [.int .i64 k, .int .i64 o, .str n, .str s, .int .i64 v.kind, .bool v.num.neg, .int .u64 (l0 v.num.n), .int .u64 (l1 v.num.n), .int .u64 (l2 v.num.n), .int .u64 (l3 v.num.n), .int .i64 v.num.scale, .bool v.flag, .str v.text, .int .i64 v.err, .int .i64 sc, .int .i64 p, .ext 17 l.length (Xp.rows l)]] [] (eL 2 cK cs) [])
    (h1 : Ret Tryz.prog 13 [.agg [.int .i64 k, .int .i64 o, .str n, .str s, .int .i64 v.kind, .bool v.num.neg, .int .u64 (l0 v.num.n), .int .u64 (l1 v.num.n), .int .u64 (l2 v.num.n), .int .u64 (l3 v.num.n), .int .i64 v.num.scale, .bool v.flag, .str v.text, .int .i64 v.err, .int .i64 sc, .int .i64 p, .ext 17 l.length (Xp.rows l)], envV true false e] (envH true false e) (eV w) (envH true false e))
    (h3 : Ret Tryz.prog 13 [.agg [.int .i64 k, .int .i64 o, .str n, .str s, .int .i64 v.kind, .bool v.num.neg, .int .u64 (l0 v.num.n), .int .u64 (l1 v.num.n), .int .u64 (l2 v.num.n), .int .u64 (l3 v.num.n), .int .i64 v.num.scale, .bool v.flag, .str v.text, .int .i64 v.err, .int .i64 sc, .int .i64 p, .ext 17 l.length (Xp.rows l)], envV false false ⟨ownG e.names ns [], ownG e.cols cs [], e.tabs⟩] (envH false false ⟨ownG e.names ns [], ownG e.cols cs [], e.tabs⟩) (eV w) (envH false false ⟨ownG e.names ns [], ownG e.cols cs [], e.tabs⟩)) :
    Ret Tryz.prog 9 [.agg [.int .i64 k, .int .i64 o, .str n, .str s, .int .i64 v.kind, .bool v.num.neg, .int .u64 (l0 v.num.n), .int .u64 (l1 v.num.n), .int .u64 (l2 v.num.n), .int .u64 (l3 v.num.n), .int .i64 v.num.scale, .bool v.flag, .str v.text, .int .i64 v.err, .int .i64 sc, .int .i64 p, .ext 17 l.length (Xp.rows l)], eRd r] [] (.bool true) [] := by
  refine ret_of_body atCalls tok mixed Tryz.func9 (by kernel_rfl) rfl (k := 77) (rs := [.tmp 4]) (by kernel_rfl) (by kernel_rfl) ?_
  (conv => whnf) <;> repeat' (first | ((first | refine wN ?_ | refine wNc ?_ | refine wA ?_ | refine wB ?_ | refine wC ?_ | refine wD ?_ | refine Called.mk _ _ (hF) ?_ | refine Called.mk _ _ (hlive) ?_ | refine Called.mk _ _ (hV) ?_ | refine Called.mk _ _ (n1) ?_ | refine vA ?_ | refine vB ?_ | refine vC ?_ | refine vD ?_ | refine uA ?_ | refine uB ?_ | refine uC ?_ | refine uD ?_); conv => whnf) | ((first | apply Pick.dec | apply Pick.beq | apply Cond.dec | apply Cond.beq | apply Cond.nd | apply Pick.nd | apply Pick.mk | apply Cond.mk) <;> intro h <;> conv => whnf))
  intro I jw js
  have turn : ∀ (d i : Nat) (m : List (ByteArray × Vl)), i + d = ns.length → ownG e.names (ns.drop i) m = ownG e.names ns [] → I [.und, .und, .ptr 0 0, .und, .und, .ptr 3 0, .ptr 6 0, .und, .und, .und, .und, .und, .und, .und, .und, .und, .und, .und, .und, .und, .und, .und, .und, .und, .und, .und, .und, .und, .und, .und, .und, eL 1 cN ns, .int .i64 (ns.length : Int), .int .i64 (i : Int), .und, .und, .und, .und, .und, .und, .und, .und, .und, .und, .und, .und, .und, .und, .und, .und, .und, .und, .und, .und, .und, .und, .und, .und, .und, .und, .und, .und, .und, .und, .und, .und, .und, .und, .und, .und, .und, .und, .und, .und, .und, .und, .und] [.cells [.int .i64 k, .int .i64 o, .str n, .str s, .int .i64 v.kind, .bool v.num.neg, .int .u64 (l0 v.num.n), .int .u64 (l1 v.num.n), .int .u64 (l2 v.num.n), .int .u64 (l3 v.num.n), .int .i64 v.num.scale, .bool v.flag, .str v.text, .int .i64 v.err, .int .i64 sc, .int .i64 p, .ext 17 l.length (Xp.rows l)], .cells [eL 11 cNm r.names, eL 26 cCo r.cols, eL 2 cTb r.tabs], mapC e, .cells [.nilm, .map 2, eL 2 cTb e.tabs], .map false true [.s] (encM kN cV m), .map true true [.s, .s] (encM kC cCl []), .cells [.map 4, .map 5, eL 2 cTb e.tabs]] := by
    intro d
    induction d with
    | zero =>
      intro i m hi hf
      rw [List.drop_of_length_le (by omega)] at hf
      have hf : m = ownG e.names ns [] := hf
      subst hf
      apply js
      conv => whnf
      refine Cond.ff (decF (by omega)) ?_
      (conv => whnf) <;> repeat' (first | ((first | refine wN ?_ | refine wNc ?_ | refine wA ?_ | refine wB ?_ | refine wC ?_ | refine wD ?_ | refine Called.mk _ _ (c1) ?_ | refine vA ?_ | refine vB ?_ | refine vC ?_ | refine vD ?_ | refine uA ?_ | refine uB ?_ | refine uC ?_ | refine uD ?_); conv => whnf) | ((first | apply Pick.dec | apply Pick.beq | apply Cond.dec | apply Cond.beq | apply Cond.nd | apply Pick.nd | apply Pick.mk | apply Cond.mk) <;> intro h <;> conv => whnf))
      intro I jw js
      have turn : ∀ (d i : Nat) (m : List (CK × Cl)), i + d = cs.length → ownG e.cols (cs.drop i) m = ownG e.cols cs [] → I [.und, .und, .ptr 0 0, .und, .und, .ptr 3 0, .ptr 6 0, .und, .und, .und, .und, .und, .und, .und, .und, .und, .und, .und, .und, .und, .und, .und, .und, .und, .und, .und, .und, .und, .und, .und, .und, .und, .und, .und, .und, .und, .und, .und, .und, .und, .und, .und, .und, .und, .und, .und, .und, .und, .und, .und, .und, eL 2 cK cs, .int .i64 (cs.length : Int), .int .i64 (i : Int), .und, .und, .und, .und, .und, .und, .und, .und, .und, .und, .und, .und, .und, .und, .und, .und, .und, .und, .und, .und, .und, .und, .und] [.cells [.int .i64 k, .int .i64 o, .str n, .str s, .int .i64 v.kind, .bool v.num.neg, .int .u64 (l0 v.num.n), .int .u64 (l1 v.num.n), .int .u64 (l2 v.num.n), .int .u64 (l3 v.num.n), .int .i64 v.num.scale, .bool v.flag, .str v.text, .int .i64 v.err, .int .i64 sc, .int .i64 p, .ext 17 l.length (Xp.rows l)], .cells [eL 11 cNm r.names, eL 26 cCo r.cols, eL 2 cTb r.tabs], mapC e, .cells [.nilm, .map 2, eL 2 cTb e.tabs], .map false true [.s] (encM kN cV (ownG e.names ns [])), .map true true [.s, .s] (encM kC cCl m), .cells [.map 4, .map 5, eL 2 cTb e.tabs]] := by
        intro d
        induction d with
        | zero =>
          intro i m hi hf
          rw [List.drop_of_length_le (by omega)] at hf
          have hf : m = ownG e.cols cs [] := hf
          subst hf
          apply js
          conv => whnf
          refine Cond.ff (decF (by omega)) ?_
          (conv => whnf) <;> repeat' (first | (refine CalledH.mk [4, 5] _ _ rfl (Nat.le_refl _) h3 ?_; conv => whnf) | (refine CalledH.mk [2] _ _ rfl (Nat.le_refl _) h1 ?_; conv => whnf) | (rw [eqV]; conv => whnf) | ((first | refine wN ?_ | refine wNc ?_ | refine wA ?_ | refine wB ?_ | refine wC ?_ | refine wD ?_ | refine vA ?_ | refine vB ?_ | refine vC ?_ | refine vD ?_ | refine uA ?_ | refine uB ?_ | refine uC ?_ | refine uD ?_); conv => whnf) | ((first | apply Pick.dec | apply Pick.beq | apply Cond.dec | apply Cond.beq | apply Cond.nd | apply Pick.nd | apply Pick.mk | apply Cond.mk) <;> intro h <;> conv => whnf))
          exact End.mk (bool_eq (by simp)) rfl
        | succ d im =>
          intro i m hi hf
          have hil : i < cs.length := by omega
          have gk : getL cK cs (Int.toNat (i : Int)) = cK cs[i] := by rw [Int.toNat_natCast]; exact getL_at (List.getElem?_eq_getElem hil)
          have e1 : IntKind.i64.wrap ((i : Int) + 1) = ((i + 1 : Nat) : Int) := by rw [wi64_id (by omega) (by omega)]; omega
          rw [List.drop_eq_getElem_cons hil] at hf
          have hf : ownG e.cols (cs.drop (i + 1)) (ownP e.cols cs[i] m) = ownG e.cols cs [] := hf
          have im := im (i + 1)
          generalize cs[i] = y at *
          apply js
          conv => whnf
          refine Cond.tt (decT (by omega)) ?_
          · have hFd : mfind [.s y.1, .s y.2] (encM kC cCl e.cols) = (aget y e.cols).map cCl := mfind_enc kC_inj y e.cols
            cases hg : aget y e.cols with
            | none =>
              rw [hg] at hFd
              have hFd : mfind [.s y.1, .s y.2] (encM kC cCl e.cols) = none := hFd
              have hO : ownP e.cols y m = m := by unfold ownP; rw [hg]
              rw [hO] at hf
              have im := im m (by omega) hf
              (conv => whnf) <;> repeat' (first | ((conv => arg 1; whnf); rw [gk]; conv => whnf) | ((conv => arg 1; whnf); rw [hFd]; conv => whnf) | ((first | refine wN ?_ | refine wNc ?_ | refine wA ?_ | refine wB ?_ | refine wC ?_ | refine wD ?_ | refine vA ?_ | refine vB ?_ | refine vC ?_ | refine vD ?_ | refine uA ?_ | refine uB ?_ | refine uC ?_ | refine uD ?_); conv => whnf) | ((first | apply Pick.dec | apply Pick.beq | apply Cond.dec | apply Cond.beq | apply Cond.nd | apply Pick.nd | apply Pick.mk | apply Cond.mk) <;> intro h <;> conv => whnf))
              all_goals (rw [e1]; apply jw [0, 1, 2, 3, 4, 5, 6] [false, false, true, false, false, true, true, false, false, false, false, false, false, false, false, false, false, false, false, false, false, false, false, false, false, false, false, false, false, false, false, false, false, false, false, false, false, false, false, false, false, false, false, false, false, false, false, false, false, false, false, true, true, true] _ _ rfl; exact im)
            | some u =>
              rw [hg] at hFd
              have hFd : mfind [.s y.1, .s y.2] (encM kC cCl e.cols) = some (cCl u) := hFd
              have hO : ownP e.cols y m = aput y u m := by unfold ownP; rw [hg]
              rw [hO] at hf
              have hP : mput [.s y.1, .s y.2] (cCl u) (encM kC cCl m) = encM kC cCl (aput y u m) := mput_enc (ev := cCl) kC_inj y u m
              have im := im (aput y u m) (by omega) hf
              (conv => whnf) <;> repeat' (first | ((conv => arg 1; whnf); rw [gk]; conv => whnf) | ((conv => arg 1; whnf); rw [hFd]; conv => whnf) | (rw [hP]; conv => whnf) | ((first | refine wN ?_ | refine wNc ?_ | refine wA ?_ | refine wB ?_ | refine wC ?_ | refine wD ?_ | refine vA ?_ | refine vB ?_ | refine vC ?_ | refine vD ?_ | refine uA ?_ | refine uB ?_ | refine uC ?_ | refine uD ?_); conv => whnf) | ((first | apply Pick.dec | apply Pick.beq | apply Cond.dec | apply Cond.beq | apply Cond.nd | apply Pick.nd | apply Pick.mk | apply Cond.mk) <;> intro h <;> conv => whnf))
              all_goals (rw [e1]; apply jw [0, 1, 2, 3, 4, 5, 6] [false, false, true, false, false, true, true, false, false, false, false, false, false, false, false, false, false, false, false, false, false, false, false, false, false, false, false, false, false, false, false, false, false, false, false, false, false, false, false, false, false, false, false, false, false, false, false, false, false, false, false, true, true, true] _ _ rfl; first | exact im | (rw [hP]; exact im) | (rw [← hP] at im; exact im))
      apply jw [0, 1, 2, 3, 4, 5, 6] [false, false, true, false, false, true, true, false, false, false, false, false, false, false, false, false, false, false, false, false, false, false, false, false, false, false, false, false, false, false, false, false, false, false, false, false, false, false, false, false, false, false, false, false, false, false, false, false, false, false, false, true, true, true] _ _ rfl
      exact turn cs.length 0 [] (by omega) rfl
    | succ d im =>
      intro i m hi hf
      have hil : i < ns.length := by omega
      have gk : getL cN ns (Int.toNat (i : Int)) = cN ns[i] := by rw [Int.toNat_natCast]; exact getL_at (List.getElem?_eq_getElem hil)
      have e1 : IntKind.i64.wrap ((i : Int) + 1) = ((i + 1 : Nat) : Int) := by rw [wi64_id (by omega) (by omega)]; omega
      rw [List.drop_eq_getElem_cons hil] at hf
      have hf : ownG e.names (ns.drop (i + 1)) (ownP e.names ns[i] m) = ownG e.names ns [] := hf
      have im := im (i + 1)
      generalize ns[i] = y at *
      apply js
      conv => whnf
      refine Cond.tt (decT (by omega)) ?_
      · cases hg : aget y e.names with
        | some u => rw [ok.names rfl] at hg; cases hg
        | none =>
          have hO : ownP e.names y m = m := by unfold ownP; rw [hg]
          rw [hO] at hf
          have im := im m (by omega) hf
          (conv => whnf) <;> repeat' (first | ((conv => arg 1; whnf); rw [gk]; conv => whnf) | ((first | refine wN ?_ | refine wNc ?_ | refine wA ?_ | refine wB ?_ | refine wC ?_ | refine wD ?_ | refine vA ?_ | refine vB ?_ | refine vC ?_ | refine vD ?_ | refine uA ?_ | refine uB ?_ | refine uC ?_ | refine uD ?_); conv => whnf) | ((first | apply Pick.dec | apply Pick.beq | apply Cond.dec | apply Cond.beq | apply Cond.nd | apply Pick.nd | apply Pick.mk | apply Cond.mk) <;> intro h <;> conv => whnf))
          all_goals (rw [e1]; apply jw [0, 1, 2, 3, 4, 5, 6] [false, false, true, false, false, true, true, false, false, false, false, false, false, false, false, false, false, false, false, false, false, false, false, false, false, false, false, false, false, false, false, true, true, true] _ _ rfl; exact im)
  apply jw [0, 1, 2, 3, 4, 5, 6] [false, false, true, false, false, true, true, false, false, false, false, false, false, false, false, false, false, false, false, false, false, false, false, false, false, false, false, false, false, false, false, true, true, true] _ _ rfl
  exact turn ns.length 0 [] (by omega) rfl
set_option maxHeartbeats 8000000 in
theorem fonly_ft (hlive : Ret Tryz.prog 11 [] [] (.bool true) []) (k o : Int) (n s : ByteArray) (v : Vl) (sc p : Int) (l : List Xp) (r : Rd) (e : EnvS) (ok : EnvOk false true e) (ns : List ByteArray) (cs : List CK) (w : Vl) (hnl : ns.length ≤ 1048576) (hcl : cs.length ≤ 1048576)
    (hF : Ret Tryz.prog 10 [.agg [.int .i64 k, .int .i64 o, .str n, .str s, .int .i64 v.kind, .bool v.num.neg, .int .u64 (l0 v.num.n), .int .u64 (l1 v.num.n), .int .u64 (l2 v.num.n), .int .u64 (l3 v.num.n), .int .i64 v.num.scale, .bool v.flag, .str v.text, .int .i64 v.err, .int .i64 sc, .int .i64 p, .ext 17 l.length (Xp.rows l)]] [] (.bool true) [])
    (hV : Ret Tryz.prog 12 [eRd r] [] (envV false true e) (envH false true e))
    (n1 : Ret Tryz.prog 22 [.agg [.int .i64 k, .int .i64 o, .str n, .str s, .int .i64 v.kind, .bool v.num.neg, .int .u64 (l0 v.num.n), .int .u64 (l1 v.num.n), .int .u64 (l2 v.num.n), .int .u64 (l3 v.num.n), .int .i64 v.num.scale, .bool v.flag, .str v.text, .int .i64 v.err, .int .i64 sc, .int .i64 p, .ext 17 l.length (Xp.rows l)]] [] (eL 1 cN ns) []) (c1 : Ret Tryz.prog 25 [.agg [.int .i64 k, .int .i64 o, .str n, .str s, .int .i64 v.kind, .bool v.num.neg, .int .u64 (l0 v.num.n), .int .u64 (l1 v.num.n), .int .u64 (l2 v.num.n), .int .u64 (l3 v.num.n), .int .i64 v.num.scale, .bool v.flag, .str v.text, .int .i64 v.err, .int .i64 sc, .int .i64 p, .ext 17 l.length (Xp.rows l)]] [] (eL 2 cK cs) [])
    (h1 : Ret Tryz.prog 13 [.agg [.int .i64 k, .int .i64 o, .str n, .str s, .int .i64 v.kind, .bool v.num.neg, .int .u64 (l0 v.num.n), .int .u64 (l1 v.num.n), .int .u64 (l2 v.num.n), .int .u64 (l3 v.num.n), .int .i64 v.num.scale, .bool v.flag, .str v.text, .int .i64 v.err, .int .i64 sc, .int .i64 p, .ext 17 l.length (Xp.rows l)], envV false true e] (envH false true e) (eV w) (envH false true e))
    (h3 : Ret Tryz.prog 13 [.agg [.int .i64 k, .int .i64 o, .str n, .str s, .int .i64 v.kind, .bool v.num.neg, .int .u64 (l0 v.num.n), .int .u64 (l1 v.num.n), .int .u64 (l2 v.num.n), .int .u64 (l3 v.num.n), .int .i64 v.num.scale, .bool v.flag, .str v.text, .int .i64 v.err, .int .i64 sc, .int .i64 p, .ext 17 l.length (Xp.rows l)], envV false false ⟨ownG e.names ns [], ownG e.cols cs [], e.tabs⟩] (envH false false ⟨ownG e.names ns [], ownG e.cols cs [], e.tabs⟩) (eV w) (envH false false ⟨ownG e.names ns [], ownG e.cols cs [], e.tabs⟩)) :
    Ret Tryz.prog 9 [.agg [.int .i64 k, .int .i64 o, .str n, .str s, .int .i64 v.kind, .bool v.num.neg, .int .u64 (l0 v.num.n), .int .u64 (l1 v.num.n), .int .u64 (l2 v.num.n), .int .u64 (l3 v.num.n), .int .i64 v.num.scale, .bool v.flag, .str v.text, .int .i64 v.err, .int .i64 sc, .int .i64 p, .ext 17 l.length (Xp.rows l)], eRd r] [] (.bool true) [] := by
  refine ret_of_body atCalls tok mixed Tryz.func9 (by kernel_rfl) rfl (k := 77) (rs := [.tmp 4]) (by kernel_rfl) (by kernel_rfl) ?_
  (conv => whnf) <;> repeat' (first | ((first | refine wN ?_ | refine wNc ?_ | refine wA ?_ | refine wB ?_ | refine wC ?_ | refine wD ?_ | refine Called.mk _ _ (hF) ?_ | refine Called.mk _ _ (hlive) ?_ | refine Called.mk _ _ (hV) ?_ | refine Called.mk _ _ (n1) ?_ | refine vA ?_ | refine vB ?_ | refine vC ?_ | refine vD ?_ | refine uA ?_ | refine uB ?_ | refine uC ?_ | refine uD ?_); conv => whnf) | ((first | apply Pick.dec | apply Pick.beq | apply Cond.dec | apply Cond.beq | apply Cond.nd | apply Pick.nd | apply Pick.mk | apply Cond.mk) <;> intro h <;> conv => whnf))
  intro I jw js
  have turn : ∀ (d i : Nat) (m : List (ByteArray × Vl)), i + d = ns.length → ownG e.names (ns.drop i) m = ownG e.names ns [] → I [.und, .und, .ptr 0 0, .und, .und, .ptr 3 0, .ptr 6 0, .und, .und, .und, .und, .und, .und, .und, .und, .und, .und, .und, .und, .und, .und, .und, .und, .und, .und, .und, .und, .und, .und, .und, .und, eL 1 cN ns, .int .i64 (ns.length : Int), .int .i64 (i : Int), .und, .und, .und, .und, .und, .und, .und, .und, .und, .und, .und, .und, .und, .und, .und, .und, .und, .und, .und, .und, .und, .und, .und, .und, .und, .und, .und, .und, .und, .und, .und, .und, .und, .und, .und, .und, .und, .und, .und, .und, .und, .und, .und] [.cells [.int .i64 k, .int .i64 o, .str n, .str s, .int .i64 v.kind, .bool v.num.neg, .int .u64 (l0 v.num.n), .int .u64 (l1 v.num.n), .int .u64 (l2 v.num.n), .int .u64 (l3 v.num.n), .int .i64 v.num.scale, .bool v.flag, .str v.text, .int .i64 v.err, .int .i64 sc, .int .i64 p, .ext 17 l.length (Xp.rows l)], .cells [eL 11 cNm r.names, eL 26 cCo r.cols, eL 2 cTb r.tabs], mapN e, .cells [.map 2, .nilm, eL 2 cTb e.tabs], .map false true [.s] (encM kN cV m), .map true true [.s, .s] (encM kC cCl []), .cells [.map 4, .map 5, eL 2 cTb e.tabs]] := by
    intro d
    induction d with
    | zero =>
      intro i m hi hf
      rw [List.drop_of_length_le (by omega)] at hf
      have hf : m = ownG e.names ns [] := hf
      subst hf
      apply js
      conv => whnf
      refine Cond.ff (decF (by omega)) ?_
      (conv => whnf) <;> repeat' (first | ((first | refine wN ?_ | refine wNc ?_ | refine wA ?_ | refine wB ?_ | refine wC ?_ | refine wD ?_ | refine Called.mk _ _ (c1) ?_ | refine vA ?_ | refine vB ?_ | refine vC ?_ | refine vD ?_ | refine uA ?_ | refine uB ?_ | refine uC ?_ | refine uD ?_); conv => whnf) | ((first | apply Pick.dec | apply Pick.beq | apply Cond.dec | apply Cond.beq | apply Cond.nd | apply Pick.nd | apply Pick.mk | apply Cond.mk) <;> intro h <;> conv => whnf))
      intro I jw js
      have turn : ∀ (d i : Nat) (m : List (CK × Cl)), i + d = cs.length → ownG e.cols (cs.drop i) m = ownG e.cols cs [] → I [.und, .und, .ptr 0 0, .und, .und, .ptr 3 0, .ptr 6 0, .und, .und, .und, .und, .und, .und, .und, .und, .und, .und, .und, .und, .und, .und, .und, .und, .und, .und, .und, .und, .und, .und, .und, .und, .und, .und, .und, .und, .und, .und, .und, .und, .und, .und, .und, .und, .und, .und, .und, .und, .und, .und, .und, .und, eL 2 cK cs, .int .i64 (cs.length : Int), .int .i64 (i : Int), .und, .und, .und, .und, .und, .und, .und, .und, .und, .und, .und, .und, .und, .und, .und, .und, .und, .und, .und, .und, .und, .und, .und] [.cells [.int .i64 k, .int .i64 o, .str n, .str s, .int .i64 v.kind, .bool v.num.neg, .int .u64 (l0 v.num.n), .int .u64 (l1 v.num.n), .int .u64 (l2 v.num.n), .int .u64 (l3 v.num.n), .int .i64 v.num.scale, .bool v.flag, .str v.text, .int .i64 v.err, .int .i64 sc, .int .i64 p, .ext 17 l.length (Xp.rows l)], .cells [eL 11 cNm r.names, eL 26 cCo r.cols, eL 2 cTb r.tabs], mapN e, .cells [.map 2, .nilm, eL 2 cTb e.tabs], .map false true [.s] (encM kN cV (ownG e.names ns [])), .map true true [.s, .s] (encM kC cCl m), .cells [.map 4, .map 5, eL 2 cTb e.tabs]] := by
        intro d
        induction d with
        | zero =>
          intro i m hi hf
          rw [List.drop_of_length_le (by omega)] at hf
          have hf : m = ownG e.cols cs [] := hf
          subst hf
          apply js
          conv => whnf
          refine Cond.ff (decF (by omega)) ?_
          (conv => whnf) <;> repeat' (first | (refine CalledH.mk [4, 5] _ _ rfl (Nat.le_refl _) h3 ?_; conv => whnf) | (refine CalledH.mk [2] _ _ rfl (Nat.le_refl _) h1 ?_; conv => whnf) | (rw [eqV]; conv => whnf) | ((first | refine wN ?_ | refine wNc ?_ | refine wA ?_ | refine wB ?_ | refine wC ?_ | refine wD ?_ | refine vA ?_ | refine vB ?_ | refine vC ?_ | refine vD ?_ | refine uA ?_ | refine uB ?_ | refine uC ?_ | refine uD ?_); conv => whnf) | ((first | apply Pick.dec | apply Pick.beq | apply Cond.dec | apply Cond.beq | apply Cond.nd | apply Pick.nd | apply Pick.mk | apply Cond.mk) <;> intro h <;> conv => whnf))
          exact End.mk (bool_eq (by simp)) rfl
        | succ d im =>
          intro i m hi hf
          have hil : i < cs.length := by omega
          have gk : getL cK cs (Int.toNat (i : Int)) = cK cs[i] := by rw [Int.toNat_natCast]; exact getL_at (List.getElem?_eq_getElem hil)
          have e1 : IntKind.i64.wrap ((i : Int) + 1) = ((i + 1 : Nat) : Int) := by rw [wi64_id (by omega) (by omega)]; omega
          rw [List.drop_eq_getElem_cons hil] at hf
          have hf : ownG e.cols (cs.drop (i + 1)) (ownP e.cols cs[i] m) = ownG e.cols cs [] := hf
          have im := im (i + 1)
          generalize cs[i] = y at *
          apply js
          conv => whnf
          refine Cond.tt (decT (by omega)) ?_
          · cases hg : aget y e.cols with
            | some u => rw [ok.cols rfl] at hg; cases hg
            | none =>
              have hO : ownP e.cols y m = m := by unfold ownP; rw [hg]
              rw [hO] at hf
              have im := im m (by omega) hf
              (conv => whnf) <;> repeat' (first | ((conv => arg 1; whnf); rw [gk]; conv => whnf) | ((first | refine wN ?_ | refine wNc ?_ | refine wA ?_ | refine wB ?_ | refine wC ?_ | refine wD ?_ | refine vA ?_ | refine vB ?_ | refine vC ?_ | refine vD ?_ | refine uA ?_ | refine uB ?_ | refine uC ?_ | refine uD ?_); conv => whnf) | ((first | apply Pick.dec | apply Pick.beq | apply Cond.dec | apply Cond.beq | apply Cond.nd | apply Pick.nd | apply Pick.mk | apply Cond.mk) <;> intro h <;> conv => whnf))
              all_goals (rw [e1]; apply jw [0, 1, 2, 3, 4, 5, 6] [false, false, true, false, false, true, true, false, false, false, false, false, false, false, false, false, false, false, false, false, false, false, false, false, false, false, false, false, false, false, false, false, false, false, false, false, false, false, false, false, false, false, false, false, false, false, false, false, false, false, false, true, true, true] _ _ rfl; exact im)
      apply jw [0, 1, 2, 3, 4, 5, 6] [false, false, true, false, false, true, true, false, false, false, false, false, false, false, false, false, false, false, false, false, false, false, false, false, false, false, false, false, false, false, false, false, false, false, false, false, false, false, false, false, false, false, false, false, false, false, false, false, false, false, false, true, true, true] _ _ rfl
      exact turn cs.length 0 [] (by omega) rfl
    | succ d im =>
      intro i m hi hf
      have hil : i < ns.length := by omega
      have gk : getL cN ns (Int.toNat (i : Int)) = cN ns[i] := by rw [Int.toNat_natCast]; exact getL_at (List.getElem?_eq_getElem hil)
      have e1 : IntKind.i64.wrap ((i : Int) + 1) = ((i + 1 : Nat) : Int) := by rw [wi64_id (by omega) (by omega)]; omega
      rw [List.drop_eq_getElem_cons hil] at hf
      have hf : ownG e.names (ns.drop (i + 1)) (ownP e.names ns[i] m) = ownG e.names ns [] := hf
      have im := im (i + 1)
      generalize ns[i] = y at *
      apply js
      conv => whnf
      refine Cond.tt (decT (by omega)) ?_
      · have hFd : mfind [.s y] (encM kN cV e.names) = (aget y e.names).map cV := mfind_enc kN_inj y e.names
        cases hg : aget y e.names with
        | none =>
          rw [hg] at hFd
          have hFd : mfind [.s y] (encM kN cV e.names) = none := hFd
          have hO : ownP e.names y m = m := by unfold ownP; rw [hg]
          rw [hO] at hf
          have im := im m (by omega) hf
          (conv => whnf) <;> repeat' (first | ((conv => arg 1; whnf); rw [gk]; conv => whnf) | ((conv => arg 1; whnf); rw [hFd]; conv => whnf) | ((first | refine wN ?_ | refine wNc ?_ | refine wA ?_ | refine wB ?_ | refine wC ?_ | refine wD ?_ | refine vA ?_ | refine vB ?_ | refine vC ?_ | refine vD ?_ | refine uA ?_ | refine uB ?_ | refine uC ?_ | refine uD ?_); conv => whnf) | ((first | apply Pick.dec | apply Pick.beq | apply Cond.dec | apply Cond.beq | apply Cond.nd | apply Pick.nd | apply Pick.mk | apply Cond.mk) <;> intro h <;> conv => whnf))
          all_goals (rw [e1]; apply jw [0, 1, 2, 3, 4, 5, 6] [false, false, true, false, false, true, true, false, false, false, false, false, false, false, false, false, false, false, false, false, false, false, false, false, false, false, false, false, false, false, false, true, true, true] _ _ rfl; exact im)
        | some u =>
          rw [hg] at hFd
          have hFd : mfind [.s y] (encM kN cV e.names) = some (cV u) := hFd
          have hO : ownP e.names y m = aput y u m := by unfold ownP; rw [hg]
          rw [hO] at hf
          have hP : mput [.s y] (cV u) (encM kN cV m) = encM kN cV (aput y u m) := mput_enc (ev := cV) kN_inj y u m
          have im := im (aput y u m) (by omega) hf
          (conv => whnf) <;> repeat' (first | ((conv => arg 1; whnf); rw [gk]; conv => whnf) | ((conv => arg 1; whnf); rw [hFd]; conv => whnf) | (rw [hP]; conv => whnf) | ((first | refine wN ?_ | refine wNc ?_ | refine wA ?_ | refine wB ?_ | refine wC ?_ | refine wD ?_ | refine vA ?_ | refine vB ?_ | refine vC ?_ | refine vD ?_ | refine uA ?_ | refine uB ?_ | refine uC ?_ | refine uD ?_); conv => whnf) | ((first | apply Pick.dec | apply Pick.beq | apply Cond.dec | apply Cond.beq | apply Cond.nd | apply Pick.nd | apply Pick.mk | apply Cond.mk) <;> intro h <;> conv => whnf))
          all_goals (rw [e1]; apply jw [0, 1, 2, 3, 4, 5, 6] [false, false, true, false, false, true, true, false, false, false, false, false, false, false, false, false, false, false, false, false, false, false, false, false, false, false, false, false, false, false, false, true, true, true] _ _ rfl; first | exact im | (rw [hP]; exact im) | (rw [← hP] at im; exact im))
  apply jw [0, 1, 2, 3, 4, 5, 6] [false, false, true, false, false, true, true, false, false, false, false, false, false, false, false, false, false, false, false, false, false, false, false, false, false, false, false, false, false, false, false, true, true, true] _ _ rfl
  exact turn ns.length 0 [] (by omega) rfl
set_option maxHeartbeats 8000000 in
theorem fonly_ff (hlive : Ret Tryz.prog 11 [] [] (.bool true) []) (k o : Int) (n s : ByteArray) (v : Vl) (sc p : Int) (l : List Xp) (r : Rd) (e : EnvS) (ok : EnvOk false false e) (ns : List ByteArray) (cs : List CK) (w : Vl) (hnl : ns.length ≤ 1048576) (hcl : cs.length ≤ 1048576)
    (hF : Ret Tryz.prog 10 [.agg [.int .i64 k, .int .i64 o, .str n, .str s, .int .i64 v.kind, .bool v.num.neg, .int .u64 (l0 v.num.n), .int .u64 (l1 v.num.n), .int .u64 (l2 v.num.n), .int .u64 (l3 v.num.n), .int .i64 v.num.scale, .bool v.flag, .str v.text, .int .i64 v.err, .int .i64 sc, .int .i64 p, .ext 17 l.length (Xp.rows l)]] [] (.bool true) [])
    (hV : Ret Tryz.prog 12 [eRd r] [] (envV false false e) (envH false false e))
    (n1 : Ret Tryz.prog 22 [.agg [.int .i64 k, .int .i64 o, .str n, .str s, .int .i64 v.kind, .bool v.num.neg, .int .u64 (l0 v.num.n), .int .u64 (l1 v.num.n), .int .u64 (l2 v.num.n), .int .u64 (l3 v.num.n), .int .i64 v.num.scale, .bool v.flag, .str v.text, .int .i64 v.err, .int .i64 sc, .int .i64 p, .ext 17 l.length (Xp.rows l)]] [] (eL 1 cN ns) []) (c1 : Ret Tryz.prog 25 [.agg [.int .i64 k, .int .i64 o, .str n, .str s, .int .i64 v.kind, .bool v.num.neg, .int .u64 (l0 v.num.n), .int .u64 (l1 v.num.n), .int .u64 (l2 v.num.n), .int .u64 (l3 v.num.n), .int .i64 v.num.scale, .bool v.flag, .str v.text, .int .i64 v.err, .int .i64 sc, .int .i64 p, .ext 17 l.length (Xp.rows l)]] [] (eL 2 cK cs) [])
    (h1 : Ret Tryz.prog 13 [.agg [.int .i64 k, .int .i64 o, .str n, .str s, .int .i64 v.kind, .bool v.num.neg, .int .u64 (l0 v.num.n), .int .u64 (l1 v.num.n), .int .u64 (l2 v.num.n), .int .u64 (l3 v.num.n), .int .i64 v.num.scale, .bool v.flag, .str v.text, .int .i64 v.err, .int .i64 sc, .int .i64 p, .ext 17 l.length (Xp.rows l)], envV false false e] (envH false false e) (eV w) (envH false false e))
    (h3 : Ret Tryz.prog 13 [.agg [.int .i64 k, .int .i64 o, .str n, .str s, .int .i64 v.kind, .bool v.num.neg, .int .u64 (l0 v.num.n), .int .u64 (l1 v.num.n), .int .u64 (l2 v.num.n), .int .u64 (l3 v.num.n), .int .i64 v.num.scale, .bool v.flag, .str v.text, .int .i64 v.err, .int .i64 sc, .int .i64 p, .ext 17 l.length (Xp.rows l)], envV false false ⟨ownG e.names ns [], ownG e.cols cs [], e.tabs⟩] (envH false false ⟨ownG e.names ns [], ownG e.cols cs [], e.tabs⟩) (eV w) (envH false false ⟨ownG e.names ns [], ownG e.cols cs [], e.tabs⟩)) :
    Ret Tryz.prog 9 [.agg [.int .i64 k, .int .i64 o, .str n, .str s, .int .i64 v.kind, .bool v.num.neg, .int .u64 (l0 v.num.n), .int .u64 (l1 v.num.n), .int .u64 (l2 v.num.n), .int .u64 (l3 v.num.n), .int .i64 v.num.scale, .bool v.flag, .str v.text, .int .i64 v.err, .int .i64 sc, .int .i64 p, .ext 17 l.length (Xp.rows l)], eRd r] [] (.bool true) [] := by
  refine ret_of_body atCalls tok mixed Tryz.func9 (by kernel_rfl) rfl (k := 77) (rs := [.tmp 4]) (by kernel_rfl) (by kernel_rfl) ?_
  (conv => whnf) <;> repeat' (first | ((first | refine wN ?_ | refine wNc ?_ | refine wA ?_ | refine wB ?_ | refine wC ?_ | refine wD ?_ | refine Called.mk _ _ (hF) ?_ | refine Called.mk _ _ (hlive) ?_ | refine Called.mk _ _ (hV) ?_ | refine Called.mk _ _ (n1) ?_ | refine vA ?_ | refine vB ?_ | refine vC ?_ | refine vD ?_ | refine uA ?_ | refine uB ?_ | refine uC ?_ | refine uD ?_); conv => whnf) | ((first | apply Pick.dec | apply Pick.beq | apply Cond.dec | apply Cond.beq | apply Cond.nd | apply Pick.nd | apply Pick.mk | apply Cond.mk) <;> intro h <;> conv => whnf))
  intro I jw js
  have turn : ∀ (d i : Nat) (m : List (ByteArray × Vl)), i + d = ns.length → ownG e.names (ns.drop i) m = ownG e.names ns [] → I [.und, .und, .ptr 0 0, .und, .und, .ptr 4 0, .ptr 7 0, .und, .und, .und, .und, .und, .und, .und, .und, .und, .und, .und, .und, .und, .und, .und, .und, .und, .und, .und, .und, .und, .und, .und, .und, eL 1 cN ns, .int .i64 (ns.length : Int), .int .i64 (i : Int), .und, .und, .und, .und, .und, .und, .und, .und, .und, .und, .und, .und, .und, .und, .und, .und, .und, .und, .und, .und, .und, .und, .und, .und, .und, .und, .und, .und, .und, .und, .und, .und, .und, .und, .und, .und, .und, .und, .und, .und, .und, .und, .und] [.cells [.int .i64 k, .int .i64 o, .str n, .str s, .int .i64 v.kind, .bool v.num.neg, .int .u64 (l0 v.num.n), .int .u64 (l1 v.num.n), .int .u64 (l2 v.num.n), .int .u64 (l3 v.num.n), .int .i64 v.num.scale, .bool v.flag, .str v.text, .int .i64 v.err, .int .i64 sc, .int .i64 p, .ext 17 l.length (Xp.rows l)], .cells [eL 11 cNm r.names, eL 26 cCo r.cols, eL 2 cTb r.tabs], mapN e, mapC e, .cells [.map 2, .map 3, eL 2 cTb e.tabs], .map false true [.s] (encM kN cV m), .map true true [.s, .s] (encM kC cCl []), .cells [.map 5, .map 6, eL 2 cTb e.tabs]] := by
    intro d
    induction d with
    | zero =>
      intro i m hi hf
      rw [List.drop_of_length_le (by omega)] at hf
      have hf : m = ownG e.names ns [] := hf
      subst hf
      apply js
      conv => whnf
      refine Cond.ff (decF (by omega)) ?_
      (conv => whnf) <;> repeat' (first | ((first | refine wN ?_ | refine wNc ?_ | refine wA ?_ | refine wB ?_ | refine wC ?_ | refine wD ?_ | refine Called.mk _ _ (c1) ?_ | refine vA ?_ | refine vB ?_ | refine vC ?_ | refine vD ?_ | refine uA ?_ | refine uB ?_ | refine uC ?_ | refine uD ?_); conv => whnf) | ((first | apply Pick.dec | apply Pick.beq | apply Cond.dec | apply Cond.beq | apply Cond.nd | apply Pick.nd | apply Pick.mk | apply Cond.mk) <;> intro h <;> conv => whnf))
      intro I jw js
      have turn : ∀ (d i : Nat) (m : List (CK × Cl)), i + d = cs.length → ownG e.cols (cs.drop i) m = ownG e.cols cs [] → I [.und, .und, .ptr 0 0, .und, .und, .ptr 4 0, .ptr 7 0, .und, .und, .und, .und, .und, .und, .und, .und, .und, .und, .und, .und, .und, .und, .und, .und, .und, .und, .und, .und, .und, .und, .und, .und, .und, .und, .und, .und, .und, .und, .und, .und, .und, .und, .und, .und, .und, .und, .und, .und, .und, .und, .und, .und, eL 2 cK cs, .int .i64 (cs.length : Int), .int .i64 (i : Int), .und, .und, .und, .und, .und, .und, .und, .und, .und, .und, .und, .und, .und, .und, .und, .und, .und, .und, .und, .und, .und, .und, .und] [.cells [.int .i64 k, .int .i64 o, .str n, .str s, .int .i64 v.kind, .bool v.num.neg, .int .u64 (l0 v.num.n), .int .u64 (l1 v.num.n), .int .u64 (l2 v.num.n), .int .u64 (l3 v.num.n), .int .i64 v.num.scale, .bool v.flag, .str v.text, .int .i64 v.err, .int .i64 sc, .int .i64 p, .ext 17 l.length (Xp.rows l)], .cells [eL 11 cNm r.names, eL 26 cCo r.cols, eL 2 cTb r.tabs], mapN e, mapC e, .cells [.map 2, .map 3, eL 2 cTb e.tabs], .map false true [.s] (encM kN cV (ownG e.names ns [])), .map true true [.s, .s] (encM kC cCl m), .cells [.map 5, .map 6, eL 2 cTb e.tabs]] := by
        intro d
        induction d with
        | zero =>
          intro i m hi hf
          rw [List.drop_of_length_le (by omega)] at hf
          have hf : m = ownG e.cols cs [] := hf
          subst hf
          apply js
          conv => whnf
          refine Cond.ff (decF (by omega)) ?_
          (conv => whnf) <;> repeat' (first | (refine CalledH.mk [5, 6] _ _ rfl (Nat.le_refl _) h3 ?_; conv => whnf) | (refine CalledH.mk [2, 3] _ _ rfl (Nat.le_refl _) h1 ?_; conv => whnf) | (rw [eqV]; conv => whnf) | ((first | refine wN ?_ | refine wNc ?_ | refine wA ?_ | refine wB ?_ | refine wC ?_ | refine wD ?_ | refine vA ?_ | refine vB ?_ | refine vC ?_ | refine vD ?_ | refine uA ?_ | refine uB ?_ | refine uC ?_ | refine uD ?_); conv => whnf) | ((first | apply Pick.dec | apply Pick.beq | apply Cond.dec | apply Cond.beq | apply Cond.nd | apply Pick.nd | apply Pick.mk | apply Cond.mk) <;> intro h <;> conv => whnf))
          exact End.mk (bool_eq (by simp)) rfl
        | succ d im =>
          intro i m hi hf
          have hil : i < cs.length := by omega
          have gk : getL cK cs (Int.toNat (i : Int)) = cK cs[i] := by rw [Int.toNat_natCast]; exact getL_at (List.getElem?_eq_getElem hil)
          have e1 : IntKind.i64.wrap ((i : Int) + 1) = ((i + 1 : Nat) : Int) := by rw [wi64_id (by omega) (by omega)]; omega
          rw [List.drop_eq_getElem_cons hil] at hf
          have hf : ownG e.cols (cs.drop (i + 1)) (ownP e.cols cs[i] m) = ownG e.cols cs [] := hf
          have im := im (i + 1)
          generalize cs[i] = y at *
          apply js
          conv => whnf
          refine Cond.tt (decT (by omega)) ?_
          · have hFd : mfind [.s y.1, .s y.2] (encM kC cCl e.cols) = (aget y e.cols).map cCl := mfind_enc kC_inj y e.cols
            cases hg : aget y e.cols with
            | none =>
              rw [hg] at hFd
              have hFd : mfind [.s y.1, .s y.2] (encM kC cCl e.cols) = none := hFd
              have hO : ownP e.cols y m = m := by unfold ownP; rw [hg]
              rw [hO] at hf
              have im := im m (by omega) hf
              (conv => whnf) <;> repeat' (first | ((conv => arg 1; whnf); rw [gk]; conv => whnf) | ((conv => arg 1; whnf); rw [hFd]; conv => whnf) | ((first | refine wN ?_ | refine wNc ?_ | refine wA ?_ | refine wB ?_ | refine wC ?_ | refine wD ?_ | refine vA ?_ | refine vB ?_ | refine vC ?_ | refine vD ?_ | refine uA ?_ | refine uB ?_ | refine uC ?_ | refine uD ?_); conv => whnf) | ((first | apply Pick.dec | apply Pick.beq | apply Cond.dec | apply Cond.beq | apply Cond.nd | apply Pick.nd | apply Pick.mk | apply Cond.mk) <;> intro h <;> conv => whnf))
              all_goals (rw [e1]; apply jw [0, 1, 2, 3, 4, 5, 6, 7] [false, false, true, false, false, true, true, false, false, false, false, false, false, false, false, false, false, false, false, false, false, false, false, false, false, false, false, false, false, false, false, false, false, false, false, false, false, false, false, false, false, false, false, false, false, false, false, false, false, false, false, true, true, true] _ _ rfl; exact im)
            | some u =>
              rw [hg] at hFd
              have hFd : mfind [.s y.1, .s y.2] (encM kC cCl e.cols) = some (cCl u) := hFd
              have hO : ownP e.cols y m = aput y u m := by unfold ownP; rw [hg]
              rw [hO] at hf
              have hP : mput [.s y.1, .s y.2] (cCl u) (encM kC cCl m) = encM kC cCl (aput y u m) := mput_enc (ev := cCl) kC_inj y u m
              have im := im (aput y u m) (by omega) hf
              (conv => whnf) <;> repeat' (first | ((conv => arg 1; whnf); rw [gk]; conv => whnf) | ((conv => arg 1; whnf); rw [hFd]; conv => whnf) | (rw [hP]; conv => whnf) | ((first | refine wN ?_ | refine wNc ?_ | refine wA ?_ | refine wB ?_ | refine wC ?_ | refine wD ?_ | refine vA ?_ | refine vB ?_ | refine vC ?_ | refine vD ?_ | refine uA ?_ | refine uB ?_ | refine uC ?_ | refine uD ?_); conv => whnf) | ((first | apply Pick.dec | apply Pick.beq | apply Cond.dec | apply Cond.beq | apply Cond.nd | apply Pick.nd | apply Pick.mk | apply Cond.mk) <;> intro h <;> conv => whnf))
              all_goals (rw [e1]; apply jw [0, 1, 2, 3, 4, 5, 6, 7] [false, false, true, false, false, true, true, false, false, false, false, false, false, false, false, false, false, false, false, false, false, false, false, false, false, false, false, false, false, false, false, false, false, false, false, false, false, false, false, false, false, false, false, false, false, false, false, false, false, false, false, true, true, true] _ _ rfl; first | exact im | (rw [hP]; exact im) | (rw [← hP] at im; exact im))
      apply jw [0, 1, 2, 3, 4, 5, 6, 7] [false, false, true, false, false, true, true, false, false, false, false, false, false, false, false, false, false, false, false, false, false, false, false, false, false, false, false, false, false, false, false, false, false, false, false, false, false, false, false, false, false, false, false, false, false, false, false, false, false, false, false, true, true, true] _ _ rfl
      exact turn cs.length 0 [] (by omega) rfl
    | succ d im =>
      intro i m hi hf
      have hil : i < ns.length := by omega
      have gk : getL cN ns (Int.toNat (i : Int)) = cN ns[i] := by rw [Int.toNat_natCast]; exact getL_at (List.getElem?_eq_getElem hil)
      have e1 : IntKind.i64.wrap ((i : Int) + 1) = ((i + 1 : Nat) : Int) := by rw [wi64_id (by omega) (by omega)]; omega
      rw [List.drop_eq_getElem_cons hil] at hf
      have hf : ownG e.names (ns.drop (i + 1)) (ownP e.names ns[i] m) = ownG e.names ns [] := hf
      have im := im (i + 1)
      generalize ns[i] = y at *
      apply js
      conv => whnf
      refine Cond.tt (decT (by omega)) ?_
      · have hFd : mfind [.s y] (encM kN cV e.names) = (aget y e.names).map cV := mfind_enc kN_inj y e.names
        cases hg : aget y e.names with
        | none =>
          rw [hg] at hFd
          have hFd : mfind [.s y] (encM kN cV e.names) = none := hFd
          have hO : ownP e.names y m = m := by unfold ownP; rw [hg]
          rw [hO] at hf
          have im := im m (by omega) hf
          (conv => whnf) <;> repeat' (first | ((conv => arg 1; whnf); rw [gk]; conv => whnf) | ((conv => arg 1; whnf); rw [hFd]; conv => whnf) | ((first | refine wN ?_ | refine wNc ?_ | refine wA ?_ | refine wB ?_ | refine wC ?_ | refine wD ?_ | refine vA ?_ | refine vB ?_ | refine vC ?_ | refine vD ?_ | refine uA ?_ | refine uB ?_ | refine uC ?_ | refine uD ?_); conv => whnf) | ((first | apply Pick.dec | apply Pick.beq | apply Cond.dec | apply Cond.beq | apply Cond.nd | apply Pick.nd | apply Pick.mk | apply Cond.mk) <;> intro h <;> conv => whnf))
          all_goals (rw [e1]; apply jw [0, 1, 2, 3, 4, 5, 6, 7] [false, false, true, false, false, true, true, false, false, false, false, false, false, false, false, false, false, false, false, false, false, false, false, false, false, false, false, false, false, false, false, true, true, true] _ _ rfl; exact im)
        | some u =>
          rw [hg] at hFd
          have hFd : mfind [.s y] (encM kN cV e.names) = some (cV u) := hFd
          have hO : ownP e.names y m = aput y u m := by unfold ownP; rw [hg]
          rw [hO] at hf
          have hP : mput [.s y] (cV u) (encM kN cV m) = encM kN cV (aput y u m) := mput_enc (ev := cV) kN_inj y u m
          have im := im (aput y u m) (by omega) hf
          (conv => whnf) <;> repeat' (first | ((conv => arg 1; whnf); rw [gk]; conv => whnf) | ((conv => arg 1; whnf); rw [hFd]; conv => whnf) | (rw [hP]; conv => whnf) | ((first | refine wN ?_ | refine wNc ?_ | refine wA ?_ | refine wB ?_ | refine wC ?_ | refine wD ?_ | refine vA ?_ | refine vB ?_ | refine vC ?_ | refine vD ?_ | refine uA ?_ | refine uB ?_ | refine uC ?_ | refine uD ?_); conv => whnf) | ((first | apply Pick.dec | apply Pick.beq | apply Cond.dec | apply Cond.beq | apply Cond.nd | apply Pick.nd | apply Pick.mk | apply Cond.mk) <;> intro h <;> conv => whnf))
          all_goals (rw [e1]; apply jw [0, 1, 2, 3, 4, 5, 6, 7] [false, false, true, false, false, true, true, false, false, false, false, false, false, false, false, false, false, false, false, false, false, false, false, false, false, false, false, false, false, false, false, true, true, true] _ _ rfl; first | exact im | (rw [hP]; exact im) | (rw [← hP] at im; exact im))
  apply jw [0, 1, 2, 3, 4, 5, 6, 7] [false, false, true, false, false, true, true, false, false, false, false, false, false, false, false, false, false, false, false, false, false, false, false, false, false, false, false, false, false, false, false, true, true, true] _ _ rfl
  exact turn ns.length 0 [] (by omega) rfl
end Go.Proofs.YtlbocjcponegcaaGreat

set_option linter.unusedVariables false
set_option linter.unusedSimpArgs false
set_option maxRecDepth 100000
namespace Go.Proofs.YtlbocjcponegcaaGreat
open Go.AM
theorem ownEnv_ok {b1 b2 : Bool} {e : EnvS} (ok : EnvOk b1 b2 e) (ns : List ByteArray) (cs : List CK) : EnvOk false false ⟨ownG e.names ns [], ownG e.cols cs [], e.tabs⟩ := by
  refine ⟨fun h => (by cases h), fun h => (by cases h), ok.tabs, fun c => ?_⟩
  show I64' ((aget c (ownG e.cols cs [])).getD (Sm0, 0)).1.rows ∧ I64' ((aget c (ownG e.cols cs [])).getD (Sm0, 0)).1.filled
  rcases aget_ownG' e.cols cs c with h | h
  · rw [h]; exact ok.sums c
  · rw [h]; exact ⟨⟨by decide, by decide⟩, ⟨by decide, by decide⟩⟩
theorem ownEnv_eval (e : EnvS) (x : Xp) : evalE ⟨ownG e.names (walkF nameR x []) [], ownG e.cols (walkF colR x []) [], e.tabs⟩ x = evalE e x :=
  eval_only (e := e) (e' := ⟨ownG e.names (walkF nameR x []) [], ownG e.cols (walkF colR x []) [], e.tabs⟩) rfl x [] []
    (fun z hz => by show (aget z (ownG e.names _ [])).getD Vl0 = (aget z e.names).getD Vl0; rw [aget_ownG _ _ _ hz])
    (fun z hz => by show (aget z (ownG e.cols _ [])).getD (Sm0, 0) = (aget z e.cols).getD (Sm0, 0); rw [aget_ownG _ _ _ hz])
theorem fonly_of (hlive : Ret Tryz.prog 11 [] [] (.bool true) []) (x : Xp) (hx : x.Wf) (hc : cntX x ≤ 1048576) (r : Rd) (hr : r.wf) : Ret Tryz.prog 9 [eE x, eRd r] [] (.bool true) [] := by
  have hm : maxLen = 9223372036854775807 := by decide
  have hF := ffits_ret x hx
  have hV := fenv_ret r (by have := hr.names; omega) (by have := hr.cols; omega)
  have ok := Rd.envOk hr
  have h1 := feval_ret _ _ r.env ok x
  have n1 := fnames2_ret x hx hc
  have c1 := fcols_ret x hx hc
  have h3 := feval_ret _ _ _ (ownEnv_ok ok (walkF nameR x []) (walkF colR x [])) x
  rw [ownEnv_eval] at h3
  have hn := nameR_len x []
  have hk := colR_len x []
  simp only [List.length_nil, Nat.zero_add] at hn hk
  generalize walkF nameR x [] = ns at *
  generalize walkF colR x [] = cs at *
  generalize evalE r.env x = w at *
  generalize r.env = e at *
  generalize nilB r.names = b1 at *
  generalize nilB r.cols = b2 at *
  by_cases h : sizeE 60 x ≤ 2000
  · rw [decT h] at hF
    obtain ⟨k, o, n, s, v, sc, p, l⟩ := x
    rw [cE_mk] at *
    cases b1 <;> cases b2
    · exact fonly_ff hlive k o n s v sc p l r e ok ns cs w (by omega) (by omega) hF hV n1 c1 h1 h3
    · exact fonly_ft hlive k o n s v sc p l r e ok ns cs w (by omega) (by omega) hF hV n1 c1 h1 h3
    · exact fonly_tf hlive k o n s v sc p l r e ok ns cs w (by omega) (by omega) hF hV n1 c1 h1 h3
    · exact fonly_tt hlive k o n s v sc p l r e ok ns cs w (by omega) (by omega) hF hV n1 c1 h1 h3
  · rw [decF h] at hF
    obtain ⟨k, o, n, s, v, sc, p, l⟩ := x
    rw [cE_mk] at *
    refine ret_of_body atCalls tok mixed Tryz.func9 (by kernel_rfl) rfl (k := 77) (rs := [.tmp 4]) (by kernel_rfl) (by kernel_rfl) ?_
    (conv => whnf) <;> repeat' (first | ((first | refine wN ?_ | refine wNc ?_ | refine wA ?_ | refine wB ?_ | refine wC ?_ | refine wD ?_ | refine Called.mk _ _ (hF) ?_ | refine Called.mk _ _ (hlive) ?_ | refine vA ?_ | refine vB ?_ | refine vC ?_ | refine vD ?_ | refine uA ?_ | refine uB ?_ | refine uC ?_ | refine uD ?_); conv => whnf) | ((first | apply Pick.dec | apply Pick.beq | apply Cond.dec | apply Cond.beq | apply Cond.nd | apply Pick.nd | apply Pick.mk | apply Cond.mk) <;> intro h <;> conv => whnf))
    exact End.mk rfl rfl
end Go.Proofs.YtlbocjcponegcaaGreat

