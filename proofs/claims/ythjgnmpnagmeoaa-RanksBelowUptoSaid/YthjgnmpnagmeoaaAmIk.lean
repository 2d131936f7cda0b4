/- ranks: graph, Users; exciseref11's. Printed by wip/tools/rkloops.py. -/
import Derived.Test.YthjgnmpnagmeoaaAmIj
import Derived.Test.YthjgnmpnagmeoaaAmIc
import Derived.Test.YthjgnmpnagmeoaaAmHn
set_option linter.unusedVariables false
set_option linter.unusedSimpArgs false
set_option maxRecDepth 100000
namespace Go.Proofs.Ythjgnmpnagmeoaa
open Go.AM
theorem idxB_ge {α : Type} (p : α → Bool) : ∀ (k : Nat) (l : List α), 0 ≤ idxB p k l ↔ ∃ x ∈ l, p x = true
  | k, [] => by simp [idxB]
  | k, t :: r => by
    unfold idxB
    by_cases h : p t = true
    · rw [if_pos h]; simp [h]
    · rw [if_neg h, idxB_ge p (k + 1) r]; simp [h]
theorem index_ret (l : List Int) (n : Int) (hl : l.length ≤ 1048576) : Ret Try.prog 52 [eL 1 cI l, .int .i64 n] [] (.int .i64 (idxB (fun x => n == x) 0 l)) [] := by
  refine ret_of_body atNone tok mixed Try.func52 (by kernel_rfl) rfl (k := 19) (rs := [.tmp 4]) (by kernel_rfl) (by kernel_rfl) ?_
  (conv => whnf) <;> repeat' (first | ((first | refine wN ?_ | refine wNc ?_ | refine wA ?_ | refine wB ?_ | refine wC ?_ | refine wD ?_ | refine vA ?_ | refine vB ?_ | refine vC ?_ | refine vD ?_ | refine uA ?_ | refine uB ?_ | refine uC ?_ | refine uD ?_); conv => whnf) | ((first | apply Pick.dec | apply Pick.beq | apply Cond.dec | apply Cond.beq | apply Cond.nd | apply Pick.nd | apply Pick.mk | apply Cond.mk) <;> intro h <;> conv => whnf))
  intro J jw js
  have key : ∀ (d k : Nat), k + d = l.length → idxB (fun x => n == x) 0 l = idxB (fun x => n == x) k (l.drop k) → J [eL 1 cI l, .int .i64 n, .und, .und, .und, .und, .und, .int .i64 (l.length : Int), .int .i64 (k : Int), .und, .und, .und, .und, .und, .und, .und, .und, .und, .und] [] := by
    intro d
    induction d with
    | zero =>
      intro k hk hi
      rw [List.drop_of_length_le (by omega)] at hi
      apply js
      conv => whnf
      refine Cond.ff (decF (by omega)) ?_
      (conv => whnf) <;> repeat' (first | ((first | refine wN ?_ | refine wNc ?_ | refine wA ?_ | refine wB ?_ | refine wC ?_ | refine wD ?_ | refine vA ?_ | refine vB ?_ | refine vC ?_ | refine vD ?_ | refine uA ?_ | refine uB ?_ | refine uC ?_ | refine uD ?_); conv => whnf) | ((first | apply Pick.dec | apply Pick.beq | apply Cond.dec | apply Cond.beq | apply Cond.nd | apply Pick.nd | apply Pick.mk | apply Cond.mk) <;> intro h <;> conv => whnf))
      exact End.mk (int_eq hi.symm) rfl
    | succ d ih =>
      intro k hk hi
      have hkl : k < l.length := by omega
      have gk : getL cI l (Int.toNat (k : Int)) = cI l[k] := by rw [Int.toNat_natCast]; exact getL_at (List.getElem?_eq_getElem hkl)
      have e1 : IntKind.i64.wrap ((k : Int) + 1) = ((k + 1 : Nat) : Int) := by rw [wi64_id (by omega) (by omega)]; omega
      rw [List.drop_eq_getElem_cons hkl] at hi
      generalize l[k] = x at *
      have hi : idxB (fun x => n == x) 0 l = if (n == x) = true then (k : Int) else idxB (fun x => n == x) (k + 1) (l.drop (k + 1)) := hi
      apply js
      conv => whnf
      refine Cond.tt (decT (by omega)) ?_
      by_cases hx : n = x
      · rw [if_pos (by simpa using hx)] at hi
        (conv => whnf) <;> repeat' (first | ((conv => arg 1; whnf); rw [gk]; conv => whnf) | ((first | refine wN ?_ | refine wNc ?_ | refine wA ?_ | refine wB ?_ | refine wC ?_ | refine wD ?_ | refine vA ?_ | refine vB ?_ | refine vC ?_ | refine vD ?_ | refine uA ?_ | refine uB ?_ | refine uC ?_ | refine uD ?_); conv => whnf) | ((first | apply Pick.dec | apply Pick.beq | apply Cond.dec | apply Cond.beq | apply Cond.nd | apply Pick.nd | apply Pick.mk | apply Cond.mk) <;> intro h <;> conv => whnf))
        exact End.mk (int_eq hi.symm) rfl
      · rw [if_neg (by simpa using hx)] at hi
        (conv => whnf) <;> repeat' (first | ((conv => arg 1; whnf); rw [gk]; conv => whnf) | ((first | refine wN ?_ | refine wNc ?_ | refine wA ?_ | refine wB ?_ | refine wC ?_ | refine wD ?_ | refine vA ?_ | refine vB ?_ | refine vC ?_ | refine vD ?_ | refine uA ?_ | refine uB ?_ | refine uC ?_ | refine uD ?_); conv => whnf) | ((first | apply Pick.dec | apply Pick.beq | apply Cond.dec | apply Cond.beq | apply Cond.nd | apply Pick.nd | apply Pick.mk | apply Cond.mk) <;> intro h <;> conv => whnf))
        rw [e1]
        apply jw [] [true, true, false, false, false, false, false, true, true] _ _ rfl
        exact ih (k + 1) (by omega) hi
  apply jw [] [true, true, false, false, false, false, false, true, true] _ _ rfl
  exact key l.length 0 (by omega) rfl
def hasZ (l : List Int) (n : Int) : Bool := decide (n ∈ l)
theorem contains_ret (l : List Int) (n : Int) (hl : l.length ≤ 1048576) : Ret Try.prog 30 [eL 1 cI l, .int .i64 n] [] (.bool (hasZ l n)) [] := by
  have hI := index_ret l n hl
  have he : hasZ l n = decide (idxB (fun x => n == x) 0 l ≥ 0) := by
    unfold hasZ
    rw [decide_eq_decide]
    show _ ↔ 0 ≤ _
    rw [idxB_ge]
    simp
  rw [he]
  refine ret_of_body atNone tok mixed Try.func30 (by kernel_rfl) rfl (k := 9) (rs := [.tmp 4]) (by kernel_rfl) (by kernel_rfl) ?_
  (conv => whnf) <;> repeat' (first | ((first | refine wN ?_ | refine wNc ?_ | refine wA ?_ | refine wB ?_ | refine wC ?_ | refine wD ?_ | refine Called.mk _ _ (hI) ?_ | refine vA ?_ | refine vB ?_ | refine vC ?_ | refine vD ?_ | refine uA ?_ | refine uB ?_ | refine uC ?_ | refine uD ?_); conv => whnf) | ((first | apply Pick.dec | apply Pick.beq | apply Cond.dec | apply Cond.beq | apply Cond.nd | apply Pick.nd | apply Pick.mk | apply Cond.mk) <;> intro h <;> conv => whnf))
  all_goals exact End.mk rfl rfl
theorem has_ret (l : List Int) (n : Int) (hl : l.length ≤ 1048576) : Ret Try.prog 49 [eL 1 cI l, .int .i64 n] [] (.bool (hasZ l n)) [] := by
  refine ret_of_body atNone tok mixed Try.func49 (by kernel_rfl) rfl (k := 18) (rs := [.tmp 4]) (by kernel_rfl) (by kernel_rfl) ?_
  (conv => whnf) <;> repeat' (first | ((first | refine wN ?_ | refine wNc ?_ | refine wA ?_ | refine wB ?_ | refine wC ?_ | refine wD ?_ | refine vA ?_ | refine vB ?_ | refine vC ?_ | refine vD ?_ | refine uA ?_ | refine uB ?_ | refine uC ?_ | refine uD ?_); conv => whnf) | ((first | apply Pick.dec | apply Pick.beq | apply Cond.dec | apply Cond.beq | apply Cond.nd | apply Pick.nd | apply Pick.mk | apply Cond.mk) <;> intro h <;> conv => whnf))
  intro J jw js
  have key : ∀ (d k : Nat), k + d = l.length → (n ∈ l ↔ n ∈ l.drop k) → J [eL 1 cI l, .int .i64 n, .und, .und, .und, .int .i64 (k : Int), .und, .und, .und, .und, .und, .und, .und, .und, .und, .und, .und, .und] [] := by
    intro d
    induction d with
    | zero =>
      intro k hk hi
      rw [List.drop_of_length_le (by omega)] at hi
      have hb : hasZ l n = false := decide_eq_false fun h => by have := hi.1 h; cases this
      apply js
      conv => whnf
      refine Cond.ff (decF (by omega)) ?_
      (conv => whnf) <;> repeat' (first | ((first | refine wN ?_ | refine wNc ?_ | refine wA ?_ | refine wB ?_ | refine wC ?_ | refine wD ?_ | refine vA ?_ | refine vB ?_ | refine vC ?_ | refine vD ?_ | refine uA ?_ | refine uB ?_ | refine uC ?_ | refine uD ?_); conv => whnf) | ((first | apply Pick.dec | apply Pick.beq | apply Cond.dec | apply Cond.beq | apply Cond.nd | apply Pick.nd | apply Pick.mk | apply Cond.mk) <;> intro h <;> conv => whnf))
      exact End.mk (bool_eq hb.symm) rfl
    | succ d ih =>
      intro k hk hi
      have hkl : k < l.length := by omega
      have gk : getL cI l (Int.toNat (k : Int)) = cI l[k] := by rw [Int.toNat_natCast]; exact getL_at (List.getElem?_eq_getElem hkl)
      have e1 : IntKind.i64.wrap ((k : Int) + 1) = ((k + 1 : Nat) : Int) := by rw [wi64_id (by omega) (by omega)]; omega
      rw [List.drop_eq_getElem_cons hkl, List.mem_cons] at hi
      generalize l[k] = x at *
      apply js
      conv => whnf
      refine Cond.tt (decT (by omega)) ?_
      by_cases hx : x = n
      · have hb : hasZ l n = true := decide_eq_true (hi.2 (.inl hx.symm))
        (conv => whnf) <;> repeat' (first | ((conv => arg 1; whnf); rw [gk]; conv => whnf) | ((first | refine wN ?_ | refine wNc ?_ | refine wA ?_ | refine wB ?_ | refine wC ?_ | refine wD ?_ | refine vA ?_ | refine vB ?_ | refine vC ?_ | refine vD ?_ | refine uA ?_ | refine uB ?_ | refine uC ?_ | refine uD ?_); conv => whnf) | ((first | apply Pick.dec | apply Pick.beq | apply Cond.dec | apply Cond.beq | apply Cond.nd | apply Pick.nd | apply Pick.mk | apply Cond.mk) <;> intro h <;> conv => whnf))
        exact End.mk (bool_eq hb.symm) rfl
      · (conv => whnf) <;> repeat' (first | ((conv => arg 1; whnf); rw [gk]; conv => whnf) | ((first | refine wN ?_ | refine wNc ?_ | refine wA ?_ | refine wB ?_ | refine wC ?_ | refine wD ?_ | refine vA ?_ | refine vB ?_ | refine vC ?_ | refine vD ?_ | refine uA ?_ | refine uB ?_ | refine uC ?_ | refine uD ?_); conv => whnf) | ((first | apply Pick.dec | apply Pick.beq | apply Cond.dec | apply Cond.beq | apply Cond.nd | apply Pick.nd | apply Pick.mk | apply Cond.mk) <;> intro h <;> conv => whnf))
        rw [e1]
        apply jw [] [true, true, false, false, false, true] _ _ rfl
        refine ih (k + 1) (by omega) ⟨fun h => ?_, fun h => hi.2 (.inr h)⟩
        rcases hi.1 h with h2 | h2
        · exact absurd h2.symm hx
        · exact h2
  apply jw [] [true, true, false, false, false, true] _ _ rfl
  exact key l.length 0 (by omega) (by simp)
/-- those of which p is so, from k on, d of them asked -/
def cmpZ {α : Type} (p : Nat → Bool) (e : Nat → α) : Nat → Nat → List α
  | 0, _ => []
  | d + 1, k => if p k = true then e k :: cmpZ p e d (k + 1) else cmpZ p e d (k + 1)
theorem cmpZ_succ {α : Type} (p : Nat → Bool) (e : Nat → α) (d k : Nat) : cmpZ p e (d + 1) k = if p k = true then e k :: cmpZ p e d (k + 1) else cmpZ p e d (k + 1) := rfl
theorem cmpZ_map {α : Type} (e : Nat → α) : ∀ (d k : Nat), cmpZ (fun _ => true) e d k = (List.range' k d).map e
  | 0, k => rfl
  | d + 1, k => by rw [cmpZ_succ, if_pos rfl, cmpZ_map e d (k + 1)]; simp [List.range'_succ]
theorem cmpZ_filter (p : Int → Bool) : ∀ (d k : Nat), cmpZ (fun k => p (k : Int)) (fun k => (k : Int)) d k = ((List.range' k d).map fun (n : Nat) => (n : Int)).filter p
  | 0, k => rfl
  | d + 1, k => by
    rw [cmpZ_succ, cmpZ_filter p d (k + 1)]
    simp only [List.range'_succ, List.map_cons, List.filter_cons]
def cRow (r : List Int) : List Val := [eL 1 cI r]
theorem rowOne (r : List Int) : (fun i => (pieces 1 1 [eL 1 cI r]).getD i []) = getL cRow [r] := getL_one (enc := cRow) rfl
theorem rowSnoc (l : List (List Int)) (r : List Int) : (fun i => if i < l.length then getL cRow l i else (pieces 1 1 [eL 1 cI r]).getD (i - l.length) []) = getL cRow (l ++ [r]) := getL_snoc (enc := cRow) rfl l
set_option maxHeartbeats 4000000 in
theorem graph_go (l : List Se) (hL : LOk l) (full : List (List Int)) (hfull : full = cmpZ (fun _ => true) (fun (k : Nat) => readsF l (k : Int)) (manyN l) 0) (vt : Val) (ht : List Blk) (h0 : full = [] → vt = .nils ∧ ht = []) (h1 : full ≠ [] → vt = .row 0 full.length ∧ ht = [.row 34 1 full.length (getL cRow full) 0]) :
    Ret Try.prog 47 [eL 5 cSe l] [] vt ht := by
  have hMany := many_ret l hL.len hL.many
  have hm := hL.many
  refine ret_of_body atNone tok mixed Try.func47 (by kernel_rfl) rfl (k := 18) (rs := [.tmp 2]) (by kernel_rfl) (by kernel_rfl) ?_
  (conv => whnf) <;> repeat' (first | ((first | refine wN ?_ | refine wNc ?_ | refine wA ?_ | refine wB ?_ | refine wC ?_ | refine wD ?_ | refine Called.mk _ _ (hMany) ?_ | refine vA ?_ | refine vB ?_ | refine vC ?_ | refine vD ?_ | refine uA ?_ | refine uB ?_ | refine uC ?_ | refine uD ?_); conv => whnf) | ((first | apply Pick.dec | apply Pick.beq | apply Cond.dec | apply Cond.beq | apply Cond.nd | apply Pick.nd | apply Pick.mk | apply Cond.mk) <;> intro h <;> conv => whnf))
  intro J jw js
  have turn : ∀ (d k : Nat) (out : List (List Int)), k + d = manyN l → out.length ≤ k → full = out ++ cmpZ (fun _ => true) (fun (k : Nat) => readsF l (k : Int)) d k →
      (out = [] → J [eL 5 cSe l, .und, .und, .nils, .und, .und, .int .i64 ((manyN l : Nat) : Int), .int .i64 (k : Int), .und, .und, .und, .und, .und, .und, .und, .und, .und, .und] []) ∧ (out ≠ [] → J [eL 5 cSe l, .und, .und, .row 0 out.length, .und, .und, .int .i64 ((manyN l : Nat) : Int), .int .i64 (k : Int), .und, .und, .und, .und, .und, .und, .und, .und, .und, .und] [.row 34 1 out.length (getL cRow out) 0]) := by
    intro d
    induction d with
    | zero =>
      intro k out hk ho he
      have he : full = out := he.trans (List.append_nil _)
      rw [he] at h0 h1
      refine ⟨fun hn => ?_, fun hn => ?_⟩
      · obtain ⟨rfl, rfl⟩ := h0 hn
        apply js
        (conv => whnf) <;> repeat' (first | ((first | refine wN ?_ | refine wNc ?_ | refine wA ?_ | refine wB ?_ | refine wC ?_ | refine wD ?_ | refine Called.mk _ _ (hMany) ?_ | refine vA ?_ | refine vB ?_ | refine vC ?_ | refine vD ?_ | refine uA ?_ | refine uB ?_ | refine uC ?_ | refine uD ?_); conv => whnf) | ((first | apply Pick.dec | apply Pick.beq | apply Cond.dec | apply Cond.beq | apply Cond.nd | apply Pick.nd | apply Pick.mk | apply Cond.mk) <;> intro h <;> conv => whnf))
        exact End.mk rfl rfl
      · obtain ⟨rfl, rfl⟩ := h1 hn
        apply js
        (conv => whnf) <;> repeat' (first | ((first | refine wN ?_ | refine wNc ?_ | refine wA ?_ | refine wB ?_ | refine wC ?_ | refine wD ?_ | refine Called.mk _ _ (hMany) ?_ | refine vA ?_ | refine vB ?_ | refine vC ?_ | refine vD ?_ | refine uA ?_ | refine uB ?_ | refine uC ?_ | refine uD ?_); conv => whnf) | ((first | apply Pick.dec | apply Pick.beq | apply Cond.dec | apply Cond.beq | apply Cond.nd | apply Pick.nd | apply Pick.mk | apply Cond.mk) <;> intro h <;> conv => whnf))
        exact EndH.mk [0] rfl rfl rfl
    | succ d im =>
      intro k out hk ho he
      have hkN : k < manyN l := by omega
      have e1 : IntKind.i64.wrap ((k : Int) + 1) = ((k + 1 : Nat) : Int) := by rw [wi64_id (by omega) (by omega)]; omega
      have imS := im (k + 1) out (by omega) (by omega)
      have imG := im (k + 1) (out ++ [readsF l (k : Int)]) (by omega) (by rw [List.length_append]; simp; omega)
      have elen : (out ++ [readsF l (k : Int)]).length = out.length + 1 := by simp
      have he : full = out ++ (if true = true then readsF l (k : Int) :: cmpZ (fun _ => true) (fun (k : Nat) => readsF l (k : Int)) d (k + 1) else cmpZ (fun _ => true) (fun (k : Nat) => readsF l (k : Int)) d (k + 1)) := he
      have hR := reads_ret l hL (k : Int) (by omega)
      generalize readsF l (k : Int) = r at *
      by_cases hp : true = true
      · rw [if_pos hp] at he
        have imG := (imG (by rw [he]; simp)).2 (by simp)
        rw [elen] at imG

        refine ⟨fun hn => ?_, fun hn => ?_⟩
        · subst hn
          apply js
          (conv => whnf) <;> repeat' (first | (rw [rowOne]; conv => whnf) | ((first | refine wN ?_ | refine wNc ?_ | refine wA ?_ | refine wB ?_ | refine wC ?_ | refine wD ?_ | refine Called.mk _ _ (hR) ?_ | refine vA ?_ | refine vB ?_ | refine vC ?_ | refine vD ?_ | refine uA ?_ | refine uB ?_ | refine uC ?_ | refine uD ?_); conv => whnf) | ((first | apply Pick.dec | apply Pick.beq | apply Cond.dec | apply Cond.beq | apply Cond.nd | apply Pick.nd | apply Pick.mk | apply Cond.mk) <;> intro h <;> conv => whnf))
          rw [e1]
          apply jw [1] [true, false, false, true, false, false, true, true] _ _ rfl
          exact imG
        · apply js
          (conv => whnf) <;> repeat' (first | (rw [rowSnoc]; conv => whnf) | ((first | refine wN ?_ | refine wNc ?_ | refine wA ?_ | refine wB ?_ | refine wC ?_ | refine wD ?_ | refine Called.mk _ _ (hR) ?_ | refine vA ?_ | refine vB ?_ | refine vC ?_ | refine vD ?_ | refine uA ?_ | refine uB ?_ | refine uC ?_ | refine uD ?_); conv => whnf) | ((first | apply Pick.dec | apply Pick.beq | apply Cond.dec | apply Cond.beq | apply Cond.nd | apply Pick.nd | apply Pick.mk | apply Cond.mk) <;> intro h <;> conv => whnf))
          rw [e1]
          apply jw [2] [true, false, false, true, false, false, true, true] _ _ rfl
          exact imG
      · exact absurd rfl hp
  apply jw [] [true, false, false, true, false, false, true, true] _ _ rfl
  exact (turn (manyN l) 0 [] (by omega) (by simp) (by rw [hfull]; rfl)).1 rfl
theorem graph_ret (l : List Se) (hL : LOk l) : Ret Try.prog 47 [eL 5 cSe l] [] (eL 1 cRow (graphF l)) [] := by
  have hf : (graphF l) = cmpZ (fun _ => true) (fun (k : Nat) => readsF l (k : Int)) (manyN l) 0 := (by rw [cmpZ_map]; unfold graphF; rw [List.range_eq_range'])
  by_cases he : (graphF l) = []
  · have h := graph_go l hL (graphF l) hf .nils [] (fun _ => ⟨rfl, rfl⟩) (fun k => absurd he k)
    rw [he]
    exact h.leR le_nils
  · have h := graph_go l hL (graphF l) hf _ _ (fun k => absurd k he) (fun _ => ⟨rfl, rfl⟩)
    exact h.lend ⟨rfl, Nat.le_refl _, Nat.le_refl _⟩ rfl
set_option maxHeartbeats 4000000 in
theorem all_go (l : List Se) (hL : LOk l) (full : List (List Int)) (hfull : full = cmpZ (fun _ => true) (fun (k : Nat) => readsF l (k : Int)) (manyN l) 0) (vt : Val) (ht : List Blk) (h0 : full = [] → vt = .nils ∧ ht = []) (h1 : full ≠ [] → vt = .row 0 full.length ∧ ht = [.row 34 1 full.length (getL cRow full) 0]) :
    Ret Try.prog 48 [eL 5 cSe l] [] vt ht := by
  have hMany := rMany_ret l hL.len hL.many
  have hm := hL.many
  refine ret_of_body atNone tok mixed Try.func48 (by kernel_rfl) rfl (k := 18) (rs := [.tmp 2]) (by kernel_rfl) (by kernel_rfl) ?_
  (conv => whnf) <;> repeat' (first | ((first | refine wN ?_ | refine wNc ?_ | refine wA ?_ | refine wB ?_ | refine wC ?_ | refine wD ?_ | refine Called.mk _ _ (hMany) ?_ | refine vA ?_ | refine vB ?_ | refine vC ?_ | refine vD ?_ | refine uA ?_ | refine uB ?_ | refine uC ?_ | refine uD ?_); conv => whnf) | ((first | apply Pick.dec | apply Pick.beq | apply Cond.dec | apply Cond.beq | apply Cond.nd | apply Pick.nd | apply Pick.mk | apply Cond.mk) <;> intro h <;> conv => whnf))
  intro J jw js
  have turn : ∀ (d k : Nat) (out : List (List Int)), k + d = manyN l → out.length ≤ k → full = out ++ cmpZ (fun _ => true) (fun (k : Nat) => readsF l (k : Int)) d k →
      (out = [] → J [eL 5 cSe l, .und, .und, .nils, .int .i64 (k : Int), .und, .und, .und, .und, .und, .und, .und, .und, .und, .und, .und, .und, .und] []) ∧ (out ≠ [] → J [eL 5 cSe l, .und, .und, .row 0 out.length, .int .i64 (k : Int), .und, .und, .und, .und, .und, .und, .und, .und, .und, .und, .und, .und, .und] [.row 34 1 out.length (getL cRow out) 0]) := by
    intro d
    induction d with
    | zero =>
      intro k out hk ho he
      have he : full = out := he.trans (List.append_nil _)
      rw [he] at h0 h1
      refine ⟨fun hn => ?_, fun hn => ?_⟩
      · obtain ⟨rfl, rfl⟩ := h0 hn
        apply js
        (conv => whnf) <;> repeat' (first | ((first | refine wN ?_ | refine wNc ?_ | refine wA ?_ | refine wB ?_ | refine wC ?_ | refine wD ?_ | refine Called.mk _ _ (hMany) ?_ | refine vA ?_ | refine vB ?_ | refine vC ?_ | refine vD ?_ | refine uA ?_ | refine uB ?_ | refine uC ?_ | refine uD ?_); conv => whnf) | ((first | apply Pick.dec | apply Pick.beq | apply Cond.dec | apply Cond.beq | apply Cond.nd | apply Pick.nd | apply Pick.mk | apply Cond.mk) <;> intro h <;> conv => whnf))
        exact End.mk rfl rfl
      · obtain ⟨rfl, rfl⟩ := h1 hn
        apply js
        (conv => whnf) <;> repeat' (first | ((first | refine wN ?_ | refine wNc ?_ | refine wA ?_ | refine wB ?_ | refine wC ?_ | refine wD ?_ | refine Called.mk _ _ (hMany) ?_ | refine vA ?_ | refine vB ?_ | refine vC ?_ | refine vD ?_ | refine uA ?_ | refine uB ?_ | refine uC ?_ | refine uD ?_); conv => whnf) | ((first | apply Pick.dec | apply Pick.beq | apply Cond.dec | apply Cond.beq | apply Cond.nd | apply Pick.nd | apply Pick.mk | apply Cond.mk) <;> intro h <;> conv => whnf))
        exact EndH.mk [0] rfl rfl rfl
    | succ d im =>
      intro k out hk ho he
      have hkN : k < manyN l := by omega
      have e1 : IntKind.i64.wrap ((k : Int) + 1) = ((k + 1 : Nat) : Int) := by rw [wi64_id (by omega) (by omega)]; omega
      have imS := im (k + 1) out (by omega) (by omega)
      have imG := im (k + 1) (out ++ [readsF l (k : Int)]) (by omega) (by rw [List.length_append]; simp; omega)
      have elen : (out ++ [readsF l (k : Int)]).length = out.length + 1 := by simp
      have he : full = out ++ (if true = true then readsF l (k : Int) :: cmpZ (fun _ => true) (fun (k : Nat) => readsF l (k : Int)) d (k + 1) else cmpZ (fun _ => true) (fun (k : Nat) => readsF l (k : Int)) d (k + 1)) := he
      have hR := rReads_ret l hL (k : Int) (by omega)
      generalize readsF l (k : Int) = r at *
      by_cases hp : true = true
      · rw [if_pos hp] at he
        have imG := (imG (by rw [he]; simp)).2 (by simp)
        rw [elen] at imG

        refine ⟨fun hn => ?_, fun hn => ?_⟩
        · subst hn
          apply js
          (conv => whnf) <;> repeat' (first | (rw [rowOne]; conv => whnf) | ((first | refine wN ?_ | refine wNc ?_ | refine wA ?_ | refine wB ?_ | refine wC ?_ | refine wD ?_ | refine Called.mk _ _ (hMany) ?_ | refine Called.mk _ _ (hR) ?_ | refine vA ?_ | refine vB ?_ | refine vC ?_ | refine vD ?_ | refine uA ?_ | refine uB ?_ | refine uC ?_ | refine uD ?_); conv => whnf) | ((first | apply Pick.dec | apply Pick.beq | apply Cond.dec | apply Cond.beq | apply Cond.nd | apply Pick.nd | apply Pick.mk | apply Cond.mk) <;> intro h <;> conv => whnf))
          rw [e1]
          apply jw [1] [true, false, false, true, true] _ _ rfl
          exact imG
        · apply js
          (conv => whnf) <;> repeat' (first | (rw [rowSnoc]; conv => whnf) | ((first | refine wN ?_ | refine wNc ?_ | refine wA ?_ | refine wB ?_ | refine wC ?_ | refine wD ?_ | refine Called.mk _ _ (hMany) ?_ | refine Called.mk _ _ (hR) ?_ | refine vA ?_ | refine vB ?_ | refine vC ?_ | refine vD ?_ | refine uA ?_ | refine uB ?_ | refine uC ?_ | refine uD ?_); conv => whnf) | ((first | apply Pick.dec | apply Pick.beq | apply Cond.dec | apply Cond.beq | apply Cond.nd | apply Pick.nd | apply Pick.mk | apply Cond.mk) <;> intro h <;> conv => whnf))
          rw [e1]
          apply jw [2] [true, false, false, true, true] _ _ rfl
          exact imG
      · exact absurd rfl hp
  apply jw [] [true, false, false, true, true] _ _ rfl
  exact (turn (manyN l) 0 [] (by omega) (by simp) (by rw [hfull]; rfl)).1 rfl
theorem all_ret (l : List Se) (hL : LOk l) : Ret Try.prog 48 [eL 5 cSe l] [] (eL 1 cRow (graphF l)) [] := by
  have hf : (graphF l) = cmpZ (fun _ => true) (fun (k : Nat) => readsF l (k : Int)) (manyN l) 0 := (by rw [cmpZ_map]; unfold graphF; rw [List.range_eq_range'])
  by_cases he : (graphF l) = []
  · have h := all_go l hL (graphF l) hf .nils [] (fun _ => ⟨rfl, rfl⟩) (fun k => absurd he k)
    rw [he]
    exact h.leR le_nils
  · have h := all_go l hL (graphF l) hf _ _ (fun k => absurd k he) (fun _ => ⟨rfl, rfl⟩)
    exact h.lend ⟨rfl, Nat.le_refl _, Nat.le_refl _⟩ rfl
set_option maxHeartbeats 4000000 in
theorem users_go (l : List Se) (hL : LOk l) (n : Int) (full : List (Int)) (hfull : full = cmpZ (fun (k : Nat) => hasZ (readsF l (k : Int)) n) (fun (k : Nat) => (k : Int)) (manyN l) 0) (vt : Val) (ht : List Blk) (h0 : full = [] → vt = .nils ∧ ht = []) (h1 : full ≠ [] → vt = .row 0 full.length ∧ ht = [.row 3 1 full.length (getL cI full) 0]) :
    Ret Try.prog 25 [eL 5 cSe l, .int .i64 n] [] vt ht := by
  have hG := graph_ret l hL
  have hm := hL.many
  have hgl := graphF_len l
  have hgk : ∀ k : Nat, k < manyN l → (graphF l)[k]? = some (readsF l (k : Int)) := fun k h => graphF_get h
  have hrl := fun (k : Nat) => readsF_len l (k : Int) hL
  generalize graphF l = gr at *
  have hgl' : ((gr.length : Nat) : Int) = ((manyN l : Nat) : Int) := by rw [hgl]
  refine ret_of_body atNone tok mixed Try.func25 (by kernel_rfl) rfl (k := 25) (rs := [.tmp 4]) (by kernel_rfl) (by kernel_rfl) ?_
  (conv => whnf) <;> repeat' (first | (rw [hgl']; conv => whnf) | ((first | refine wN ?_ | refine wNc ?_ | refine wA ?_ | refine wB ?_ | refine wC ?_ | refine wD ?_ | refine Called.mk _ _ (hG) ?_ | refine vA ?_ | refine vB ?_ | refine vC ?_ | refine vD ?_ | refine uA ?_ | refine uB ?_ | refine uC ?_ | refine uD ?_); conv => whnf) | ((first | apply Pick.dec | apply Pick.beq | apply Cond.dec | apply Cond.beq | apply Cond.nd | apply Pick.nd | apply Pick.mk | apply Cond.mk) <;> intro h <;> conv => whnf))
  intro J jw js
  have turn : ∀ (d k : Nat) (out : List (Int)), k + d = manyN l → out.length ≤ k → full = out ++ cmpZ (fun (k : Nat) => hasZ (readsF l (k : Int)) n) (fun (k : Nat) => (k : Int)) d k →
      (out = [] → J [.und, .int .i64 n, .und, .und, .und, .nils, .und, .und, .und, eL 1 cRow (gr), .int .i64 ((manyN l : Nat) : Int), .int .i64 (k : Int), .und, .und, .und, .und, .und, .und, .und, .und, .und, .und, .und, .und, .und] []) ∧ (out ≠ [] → J [.und, .int .i64 n, .und, .und, .und, .row 0 out.length, .und, .und, .und, eL 1 cRow (gr), .int .i64 ((manyN l : Nat) : Int), .int .i64 (k : Int), .und, .und, .und, .und, .und, .und, .und, .und, .und, .und, .und, .und, .und] [.row 3 1 out.length (getL cI out) 0]) := by
    intro d
    induction d with
    | zero =>
      intro k out hk ho he
      have he : full = out := he.trans (List.append_nil _)
      rw [he] at h0 h1
      refine ⟨fun hn => ?_, fun hn => ?_⟩
      · obtain ⟨rfl, rfl⟩ := h0 hn
        apply js
        (conv => whnf) <;> repeat' (first | (rw [hgl']; conv => whnf) | ((first | refine wN ?_ | refine wNc ?_ | refine wA ?_ | refine wB ?_ | refine wC ?_ | refine wD ?_ | refine Called.mk _ _ (hG) ?_ | refine vA ?_ | refine vB ?_ | refine vC ?_ | refine vD ?_ | refine uA ?_ | refine uB ?_ | refine uC ?_ | refine uD ?_); conv => whnf) | ((first | apply Pick.dec | apply Pick.beq | apply Cond.dec | apply Cond.beq | apply Cond.nd | apply Pick.nd | apply Pick.mk | apply Cond.mk) <;> intro h <;> conv => whnf))
        exact End.mk rfl rfl
      · obtain ⟨rfl, rfl⟩ := h1 hn
        apply js
        (conv => whnf) <;> repeat' (first | (rw [hgl']; conv => whnf) | ((first | refine wN ?_ | refine wNc ?_ | refine wA ?_ | refine wB ?_ | refine wC ?_ | refine wD ?_ | refine Called.mk _ _ (hG) ?_ | refine vA ?_ | refine vB ?_ | refine vC ?_ | refine vD ?_ | refine uA ?_ | refine uB ?_ | refine uC ?_ | refine uD ?_); conv => whnf) | ((first | apply Pick.dec | apply Pick.beq | apply Cond.dec | apply Cond.beq | apply Cond.nd | apply Pick.nd | apply Pick.mk | apply Cond.mk) <;> intro h <;> conv => whnf))
        exact EndH.mk [0] rfl rfl rfl
    | succ d im =>
      intro k out hk ho he
      have hkN : k < manyN l := by omega
      have e1 : IntKind.i64.wrap ((k : Int) + 1) = ((k + 1 : Nat) : Int) := by rw [wi64_id (by omega) (by omega)]; omega
      have imS := im (k + 1) out (by omega) (by omega)
      have imG := im (k + 1) (out ++ [(k : Int)]) (by omega) (by rw [List.length_append]; simp; omega)
      have elen : (out ++ [(k : Int)]).length = out.length + 1 := by simp
      have he : full = out ++ (if hasZ (readsF l (k : Int)) n = true then (k : Int) :: cmpZ (fun (k : Nat) => hasZ (readsF l (k : Int)) n) (fun (k : Nat) => (k : Int)) d (k + 1) else cmpZ (fun (k : Nat) => hasZ (readsF l (k : Int)) n) (fun (k : Nat) => (k : Int)) d (k + 1)) := he
      have gk : getL cRow gr (Int.toNat (k : Int)) = cRow (readsF l (k : Int)) := by rw [Int.toNat_natCast]; exact getL_at (hgk k hkN)
      have hC := contains_ret (readsF l (k : Int)) n (hrl k)
      generalize readsF l (k : Int) = r at *
      by_cases hp : hasZ r n = true
      · rw [if_pos hp] at he
        have imG := (imG (by rw [he]; simp)).2 (by simp)
        rw [elen] at imG
        have hp : hasZ r n = true := hp
        rw [hp] at hC
        refine ⟨fun hn => ?_, fun hn => ?_⟩
        · subst hn
          apply js
          (conv => whnf) <;> repeat' (first | ((conv => arg 1; whnf); rw [gk]; conv => whnf) | (rw [hgl']; conv => whnf) | (rw [getI_one]; conv => whnf) | ((first | refine wN ?_ | refine wNc ?_ | refine wA ?_ | refine wB ?_ | refine wC ?_ | refine wD ?_ | refine Called.mk _ _ (hC) ?_ | refine vA ?_ | refine vB ?_ | refine vC ?_ | refine vD ?_ | refine uA ?_ | refine uB ?_ | refine uC ?_ | refine uD ?_); conv => whnf) | ((first | apply Pick.dec | apply Pick.beq | apply Cond.dec | apply Cond.beq | apply Cond.nd | apply Pick.nd | apply Pick.mk | apply Cond.mk) <;> intro h <;> conv => whnf))
          rw [e1]
          apply jw [1] [false, true, false, false, false, true, false, false, false, true, true, true] _ _ rfl
          exact imG
        · apply js
          (conv => whnf) <;> repeat' (first | ((conv => arg 1; whnf); rw [gk]; conv => whnf) | (rw [hgl']; conv => whnf) | (rw [getI_snoc]; conv => whnf) | ((first | refine wN ?_ | refine wNc ?_ | refine wA ?_ | refine wB ?_ | refine wC ?_ | refine wD ?_ | refine Called.mk _ _ (hC) ?_ | refine vA ?_ | refine vB ?_ | refine vC ?_ | refine vD ?_ | refine uA ?_ | refine uB ?_ | refine uC ?_ | refine uD ?_); conv => whnf) | ((first | apply Pick.dec | apply Pick.beq | apply Cond.dec | apply Cond.beq | apply Cond.nd | apply Pick.nd | apply Pick.mk | apply Cond.mk) <;> intro h <;> conv => whnf))
          rw [e1]
          apply jw [2] [false, true, false, false, false, true, false, false, false, true, true, true] _ _ rfl
          exact imG
      · rw [if_neg hp] at he
        have imS := imS he
        have hp : hasZ r n = false := by simpa using hp
        rw [hp] at hC
        refine ⟨fun hn => ?_, fun hn => ?_⟩
        · apply js
          (conv => whnf) <;> repeat' (first | ((conv => arg 1; whnf); rw [gk]; conv => whnf) | (rw [hgl']; conv => whnf) | ((first | refine wN ?_ | refine wNc ?_ | refine wA ?_ | refine wB ?_ | refine wC ?_ | refine wD ?_ | refine Called.mk _ _ (hC) ?_ | refine vA ?_ | refine vB ?_ | refine vC ?_ | refine vD ?_ | refine uA ?_ | refine uB ?_ | refine uC ?_ | refine uD ?_); conv => whnf) | ((first | apply Pick.dec | apply Pick.beq | apply Cond.dec | apply Cond.beq | apply Cond.nd | apply Pick.nd | apply Pick.mk | apply Cond.mk) <;> intro h <;> conv => whnf))
          rw [e1]
          apply jw [] [false, true, false, false, false, true, false, false, false, true, true, true] _ _ rfl
          exact imS.1 hn
        · apply js
          (conv => whnf) <;> repeat' (first | ((conv => arg 1; whnf); rw [gk]; conv => whnf) | (rw [hgl']; conv => whnf) | ((first | refine wN ?_ | refine wNc ?_ | refine wA ?_ | refine wB ?_ | refine wC ?_ | refine wD ?_ | refine Called.mk _ _ (hC) ?_ | refine vA ?_ | refine vB ?_ | refine vC ?_ | refine vD ?_ | refine uA ?_ | refine uB ?_ | refine uC ?_ | refine uD ?_); conv => whnf) | ((first | apply Pick.dec | apply Pick.beq | apply Cond.dec | apply Cond.beq | apply Cond.nd | apply Pick.nd | apply Pick.mk | apply Cond.mk) <;> intro h <;> conv => whnf))
          rw [e1]
          apply jw [0] [false, true, false, false, false, true, false, false, false, true, true, true] _ _ rfl
          exact imS.2 hn
  apply jw [] [false, true, false, false, false, true, false, false, false, true, true, true] _ _ rfl
  exact (turn (manyN l) 0 [] (by omega) (by simp) (by rw [hfull]; rfl)).1 rfl
theorem users_ret (l : List Se) (hL : LOk l) (n : Int) : Ret Try.prog 25 [eL 5 cSe l, .int .i64 n] [] (eL 1 cI (usersF l n)) [] := by
  have hf : (usersF l n) = cmpZ (fun (k : Nat) => hasZ (readsF l (k : Int)) n) (fun (k : Nat) => (k : Int)) (manyN l) 0 := (by rw [cmpZ_filter (fun k => hasZ (readsF l k) n)]; unfold usersF zeroTo; rw [List.range_eq_range']; rfl)
  by_cases he : (usersF l n) = []
  · have h := users_go l hL n (usersF l n) hf .nils [] (fun _ => ⟨rfl, rfl⟩) (fun k => absurd he k)
    rw [he]
    exact h.leR le_nils
  · have h := users_go l hL n (usersF l n) hf _ _ (fun k => absurd k he) (fun _ => ⟨rfl, rfl⟩)
    exact h.lend ⟨rfl, Nat.le_refl _, Nat.le_refl _⟩ rfl
set_option maxHeartbeats 4000000 in
theorem rusers_go (l : List Se) (hL : LOk l) (n : Int) (full : List (Int)) (hfull : full = cmpZ (fun (k : Nat) => hasZ (readsF l (k : Int)) n) (fun (k : Nat) => (k : Int)) (manyN l) 0) (vt : Val) (ht : List Blk) (h0 : full = [] → vt = .nils ∧ ht = []) (h1 : full ≠ [] → vt = .row 0 full.length ∧ ht = [.row 3 1 full.length (getL cI full) 0]) :
    Ret Try.prog 26 [eL 5 cSe l, .int .i64 n] [] vt ht := by
  have hG := all_ret l hL
  have hm := hL.many
  have hgl := graphF_len l
  have hgk : ∀ k : Nat, k < manyN l → (graphF l)[k]? = some (readsF l (k : Int)) := fun k h => graphF_get h
  have hrl := fun (k : Nat) => readsF_len l (k : Int) hL
  generalize graphF l = gr at *
  have hgl' : ((gr.length : Nat) : Int) = ((manyN l : Nat) : Int) := by rw [hgl]
  refine ret_of_body atNone tok mixed Try.func26 (by kernel_rfl) rfl (k := 27) (rs := [.tmp 4]) (by kernel_rfl) (by kernel_rfl) ?_
  (conv => whnf) <;> repeat' (first | (rw [hgl']; conv => whnf) | ((first | refine wN ?_ | refine wNc ?_ | refine wA ?_ | refine wB ?_ | refine wC ?_ | refine wD ?_ | refine Called.mk _ _ (hG) ?_ | refine vA ?_ | refine vB ?_ | refine vC ?_ | refine vD ?_ | refine uA ?_ | refine uB ?_ | refine uC ?_ | refine uD ?_); conv => whnf) | ((first | apply Pick.dec | apply Pick.beq | apply Cond.dec | apply Cond.beq | apply Cond.nd | apply Pick.nd | apply Pick.mk | apply Cond.mk) <;> intro h <;> conv => whnf))
  intro J jw js
  have turn : ∀ (d k : Nat) (out : List (Int)), k + d = manyN l → out.length ≤ k → full = out ++ cmpZ (fun (k : Nat) => hasZ (readsF l (k : Int)) n) (fun (k : Nat) => (k : Int)) d k →
      (out = [] → J [.und, .int .i64 n, .und, .und, .und, eL 1 cRow (gr), .nils, .int .i64 (k : Int), .und, .und, .und, .und, .und, .und, .und, .und, .und, .und, .und, .und, .und, .und, .und, .und, .und, .und, .und] []) ∧ (out ≠ [] → J [.und, .int .i64 n, .und, .und, .und, eL 1 cRow (gr), .row 0 out.length, .int .i64 (k : Int), .und, .und, .und, .und, .und, .und, .und, .und, .und, .und, .und, .und, .und, .und, .und, .und, .und, .und, .und] [.row 3 1 out.length (getL cI out) 0]) := by
    intro d
    induction d with
    | zero =>
      intro k out hk ho he
      have he : full = out := he.trans (List.append_nil _)
      rw [he] at h0 h1
      refine ⟨fun hn => ?_, fun hn => ?_⟩
      · obtain ⟨rfl, rfl⟩ := h0 hn
        apply js
        (conv => whnf) <;> repeat' (first | (rw [hgl']; conv => whnf) | ((first | refine wN ?_ | refine wNc ?_ | refine wA ?_ | refine wB ?_ | refine wC ?_ | refine wD ?_ | refine Called.mk _ _ (hG) ?_ | refine vA ?_ | refine vB ?_ | refine vC ?_ | refine vD ?_ | refine uA ?_ | refine uB ?_ | refine uC ?_ | refine uD ?_); conv => whnf) | ((first | apply Pick.dec | apply Pick.beq | apply Cond.dec | apply Cond.beq | apply Cond.nd | apply Pick.nd | apply Pick.mk | apply Cond.mk) <;> intro h <;> conv => whnf))
        exact End.mk rfl rfl
      · obtain ⟨rfl, rfl⟩ := h1 hn
        apply js
        (conv => whnf) <;> repeat' (first | (rw [hgl']; conv => whnf) | ((first | refine wN ?_ | refine wNc ?_ | refine wA ?_ | refine wB ?_ | refine wC ?_ | refine wD ?_ | refine Called.mk _ _ (hG) ?_ | refine vA ?_ | refine vB ?_ | refine vC ?_ | refine vD ?_ | refine uA ?_ | refine uB ?_ | refine uC ?_ | refine uD ?_); conv => whnf) | ((first | apply Pick.dec | apply Pick.beq | apply Cond.dec | apply Cond.beq | apply Cond.nd | apply Pick.nd | apply Pick.mk | apply Cond.mk) <;> intro h <;> conv => whnf))
        exact EndH.mk [0] rfl rfl rfl
    | succ d im =>
      intro k out hk ho he
      have hkN : k < manyN l := by omega
      have e1 : IntKind.i64.wrap ((k : Int) + 1) = ((k + 1 : Nat) : Int) := by rw [wi64_id (by omega) (by omega)]; omega
      have imS := im (k + 1) out (by omega) (by omega)
      have imG := im (k + 1) (out ++ [(k : Int)]) (by omega) (by rw [List.length_append]; simp; omega)
      have elen : (out ++ [(k : Int)]).length = out.length + 1 := by simp
      have he : full = out ++ (if hasZ (readsF l (k : Int)) n = true then (k : Int) :: cmpZ (fun (k : Nat) => hasZ (readsF l (k : Int)) n) (fun (k : Nat) => (k : Int)) d (k + 1) else cmpZ (fun (k : Nat) => hasZ (readsF l (k : Int)) n) (fun (k : Nat) => (k : Int)) d (k + 1)) := he
      have gk : getL cRow gr (Int.toNat (k : Int)) = cRow (readsF l (k : Int)) := by rw [Int.toNat_natCast]; exact getL_at (hgk k hkN)
      have hC := has_ret (readsF l (k : Int)) n (hrl k)
      generalize readsF l (k : Int) = r at *
      by_cases hp : hasZ r n = true
      · rw [if_pos hp] at he
        have imG := (imG (by rw [he]; simp)).2 (by simp)
        rw [elen] at imG
        have hp : hasZ r n = true := hp
        rw [hp] at hC
        refine ⟨fun hn => ?_, fun hn => ?_⟩
        · subst hn
          apply js
          (conv => whnf) <;> repeat' (first | ((conv => arg 1; whnf); rw [gk]; conv => whnf) | (rw [hgl']; conv => whnf) | (rw [getI_one]; conv => whnf) | ((first | refine wN ?_ | refine wNc ?_ | refine wA ?_ | refine wB ?_ | refine wC ?_ | refine wD ?_ | refine Called.mk _ _ (hC) ?_ | refine vA ?_ | refine vB ?_ | refine vC ?_ | refine vD ?_ | refine uA ?_ | refine uB ?_ | refine uC ?_ | refine uD ?_); conv => whnf) | ((first | apply Pick.dec | apply Pick.beq | apply Cond.dec | apply Cond.beq | apply Cond.nd | apply Pick.nd | apply Pick.mk | apply Cond.mk) <;> intro h <;> conv => whnf))
          rw [e1]
          apply jw [1] [false, true, false, false, false, true, true, true] _ _ rfl
          exact imG
        · apply js
          (conv => whnf) <;> repeat' (first | ((conv => arg 1; whnf); rw [gk]; conv => whnf) | (rw [hgl']; conv => whnf) | (rw [getI_snoc]; conv => whnf) | ((first | refine wN ?_ | refine wNc ?_ | refine wA ?_ | refine wB ?_ | refine wC ?_ | refine wD ?_ | refine Called.mk _ _ (hC) ?_ | refine vA ?_ | refine vB ?_ | refine vC ?_ | refine vD ?_ | refine uA ?_ | refine uB ?_ | refine uC ?_ | refine uD ?_); conv => whnf) | ((first | apply Pick.dec | apply Pick.beq | apply Cond.dec | apply Cond.beq | apply Cond.nd | apply Pick.nd | apply Pick.mk | apply Cond.mk) <;> intro h <;> conv => whnf))
          rw [e1]
          apply jw [2] [false, true, false, false, false, true, true, true] _ _ rfl
          exact imG
      · rw [if_neg hp] at he
        have imS := imS he
        have hp : hasZ r n = false := by simpa using hp
        rw [hp] at hC
        refine ⟨fun hn => ?_, fun hn => ?_⟩
        · apply js
          (conv => whnf) <;> repeat' (first | ((conv => arg 1; whnf); rw [gk]; conv => whnf) | (rw [hgl']; conv => whnf) | ((first | refine wN ?_ | refine wNc ?_ | refine wA ?_ | refine wB ?_ | refine wC ?_ | refine wD ?_ | refine Called.mk _ _ (hC) ?_ | refine vA ?_ | refine vB ?_ | refine vC ?_ | refine vD ?_ | refine uA ?_ | refine uB ?_ | refine uC ?_ | refine uD ?_); conv => whnf) | ((first | apply Pick.dec | apply Pick.beq | apply Cond.dec | apply Cond.beq | apply Cond.nd | apply Pick.nd | apply Pick.mk | apply Cond.mk) <;> intro h <;> conv => whnf))
          rw [e1]
          apply jw [] [false, true, false, false, false, true, true, true] _ _ rfl
          exact imS.1 hn
        · apply js
          (conv => whnf) <;> repeat' (first | ((conv => arg 1; whnf); rw [gk]; conv => whnf) | (rw [hgl']; conv => whnf) | ((first | refine wN ?_ | refine wNc ?_ | refine wA ?_ | refine wB ?_ | refine wC ?_ | refine wD ?_ | refine Called.mk _ _ (hC) ?_ | refine vA ?_ | refine vB ?_ | refine vC ?_ | refine vD ?_ | refine uA ?_ | refine uB ?_ | refine uC ?_ | refine uD ?_); conv => whnf) | ((first | apply Pick.dec | apply Pick.beq | apply Cond.dec | apply Cond.beq | apply Cond.nd | apply Pick.nd | apply Pick.mk | apply Cond.mk) <;> intro h <;> conv => whnf))
          rw [e1]
          apply jw [0] [false, true, false, false, false, true, true, true] _ _ rfl
          exact imS.2 hn
  apply jw [] [false, true, false, false, false, true, true, true] _ _ rfl
  exact (turn (manyN l) 0 [] (by omega) (by simp) (by rw [hfull]; rfl)).1 rfl
theorem rusers_ret (l : List Se) (hL : LOk l) (n : Int) : Ret Try.prog 26 [eL 5 cSe l, .int .i64 n] [] (eL 1 cI (usersF l n)) [] := by
  have hf : (usersF l n) = cmpZ (fun (k : Nat) => hasZ (readsF l (k : Int)) n) (fun (k : Nat) => (k : Int)) (manyN l) 0 := (by rw [cmpZ_filter (fun k => hasZ (readsF l k) n)]; unfold usersF zeroTo; rw [List.range_eq_range']; rfl)
  by_cases he : (usersF l n) = []
  · have h := rusers_go l hL n (usersF l n) hf .nils [] (fun _ => ⟨rfl, rfl⟩) (fun k => absurd he k)
    rw [he]
    exact h.leR le_nils
  · have h := rusers_go l hL n (usersF l n) hf _ _ (fun k => absurd k he) (fun _ => ⟨rfl, rfl⟩)
    exact h.lend ⟨rfl, Nat.le_refl _, Nat.le_refl _⟩ rfl
end Go.Proofs.Ythjgnmpnagmeoaa

set_option linter.unusedVariables false
set_option linter.unusedSimpArgs false
set_option maxRecDepth 100000
namespace Go.Proofs.Ythjgnmpnagmeoaa
open Go.AM
theorem rkStep_yes {k : Nat} {r : List Int} {es : RkM} {v : Int} (h : aget (k : Int) es = some v) : rkStep k r es = es := by unfold rkStep; rw [h]; rfl
theorem rkStep_no {k : Nat} {r : List Int} {es : RkM} (h : aget (k : Int) es = none) : rkStep k r es = if hasAll es r = true then aput (k : Int) (mostOf es (-1) r + 1) es else es := by unfold rkStep; rw [h]; rfl
theorem hasAll_cons (es : RkM) (j : Int) (r : List Int) : hasAll es (j :: r) = ((aget j es).isSome && hasAll es r) := rfl
set_option maxHeartbeats 8000000 in
theorem ranked_go (l : List Se) (gr : List (List Int)) (hG : Ret Try.prog 47 [eL 5 cSe l] [] (eL 1 cRow gr) []) (hM : gr.length ≤ 1048576) (hrl : ∀ r ∈ gr, r.length ≤ 1048576) :
    Ret Try.prog 43 [eL 5 cSe l] [] (.map 0) [mapZ (rankE gr)] := by
  have hfin : fixE (gr.length + 1) gr [] = rankE gr := rfl
  have hok := rankE_ok gr
  generalize rankE gr = R at *
  refine ret_of_body atNone tok mixed Try.func43 (by kernel_rfl) rfl (k := 61) (rs := [.tmp 2]) (by kernel_rfl) (by kernel_rfl) ?_
  (conv => whnf) <;> repeat' (first | ((first | refine wN ?_ | refine wNc ?_ | refine wA ?_ | refine wB ?_ | refine wC ?_ | refine wD ?_ | refine Called.mk _ _ (hG) ?_ | refine vA ?_ | refine vB ?_ | refine vC ?_ | refine vD ?_ | refine uA ?_ | refine uB ?_ | refine uC ?_ | refine uD ?_); conv => whnf) | ((first | apply Pick.dec | apply Pick.beq | apply Cond.dec | apply Cond.beq | apply Cond.nd | apply Pick.nd | apply Pick.mk | apply Cond.mk) <;> intro h <;> conv => whnf))
  intro J jw js
  have done : J [.und, .und, .und, eL 1 cRow gr, .map 0, .bool false, .und, .und, .und, .und, .und, .und, .und, .und, .und, .und, .und, .und, .und, .und, .und, .und, .und, .und, .und, .und, .und, .und, .und, .und, .und, .und, .und, .und, .und, .und, .und, .und, .und, .und, .und, .und, .und, .und, .und, .und, .und, .und, .und, .und, .und, .und, .und, .und, .und, .und, .und, .und, .und, .und, .und] [mapZ R] := by
    apply js
    conv => whnf
    refine Cond.ff rfl ?_
    (conv => whnf) <;> repeat' (first | ((first | refine wN ?_ | refine wNc ?_ | refine wA ?_ | refine wB ?_ | refine wC ?_ | refine wD ?_ | refine vA ?_ | refine vB ?_ | refine vC ?_ | refine vD ?_ | refine uA ?_ | refine uB ?_ | refine uC ?_ | refine uD ?_); conv => whnf) | ((first | apply Pick.dec | apply Pick.beq | apply Cond.dec | apply Cond.beq | apply Cond.nd | apply Pick.nd | apply Pick.mk | apply Cond.mk) <;> intro h <;> conv => whnf))
    exact EndH.mk [0] rfl rfl rfl
  have pass : ∀ (f : Nat) (es : RkM), RkOk gr.length es → gr.length < f + es.length → fixE f gr es = R →
      J [.und, .und, .und, eL 1 cRow gr, .map 0, .bool true, .und, .und, .und, .und, .und, .und, .und, .und, .und, .und, .und, .und, .und, .und, .und, .und, .und, .und, .und, .und, .und, .und, .und, .und, .und, .und, .und, .und, .und, .und, .und, .und, .und, .und, .und, .und, .und, .und, .und, .und, .und, .und, .und, .und, .und, .und, .und, .und, .und, .und, .und, .und, .und, .und, .und] [mapZ es] := by
    intro f
    induction f with
    | zero => intro es ho hf _; have := ho.len; omega
    | succ f ihf =>
      intro es ho hf hR
      have h1 := passL_pre 0 gr es
      have h2 := passL_ok (k := 0) (g := gr) (M := gr.length) (by omega) ho
      apply js
      conv => whnf
      refine Cond.tt rfl ?_
      (conv => whnf) <;> repeat' (first | ((first | refine wN ?_ | refine wNc ?_ | refine wA ?_ | refine wB ?_ | refine wC ?_ | refine wD ?_ | refine vA ?_ | refine vB ?_ | refine vC ?_ | refine vD ?_ | refine uA ?_ | refine uB ?_ | refine uC ?_ | refine uD ?_); conv => whnf) | ((first | apply Pick.dec | apply Pick.beq | apply Cond.dec | apply Cond.beq | apply Cond.nd | apply Pick.nd | apply Pick.mk | apply Cond.mk) <;> intro h <;> conv => whnf))
      intro K kw ks
      have inner : ∀ (d k : Nat) (e2 : RkM) (b : Bool), k + d = gr.length → RkOk gr.length e2 → es <+: e2 → b = decide (e2.length ≠ es.length) → passL k (gr.drop k) e2 = passL 0 gr es →
          K [.und, .und, .und, eL 1 cRow gr, .map 0, .bool b, .und, .und, .und, .und, .und, .und, .und, .und, .und, .und, .und, .und, .und, .und, eL 1 cRow gr, .int .i64 (gr.length : Int), .int .i64 (k : Int), .und, .und, .und, .und, .und, .und, .und, .und, .und, .und, .und, .und, .und, .und, .und, .und, .und, .und, .und, .und, .und, .und, .und, .und, .und, .und, .und, .und, .und, .und, .und, .und, .und, .und, .und, .und, .und, .und] [mapZ e2] := by
        intro d
        induction d with
        | zero =>
          intro k e2 b hk ho2 hpre hb he
          rw [List.drop_of_length_le (by omega)] at he
          have he : e2 = passL 0 gr es := he
          apply ks
          conv => whnf
          refine Cond.ff (decF (by omega)) ?_
          (conv => whnf) <;> repeat' (first | ((first | refine wN ?_ | refine wNc ?_ | refine wA ?_ | refine wB ?_ | refine wC ?_ | refine wD ?_ | refine vA ?_ | refine vB ?_ | refine vC ?_ | refine vD ?_ | refine uA ?_ | refine uB ?_ | refine uC ?_ | refine uD ?_); conv => whnf) | ((first | apply Pick.dec | apply Pick.beq | apply Cond.dec | apply Cond.beq | apply Cond.nd | apply Pick.nd | apply Pick.mk | apply Cond.mk) <;> intro h <;> conv => whnf))
          by_cases hl : e2.length = es.length
          · have hbf : b = false := by rw [hb]; exact decide_eq_false (by simpa using hl)
            subst hbf
            have e3 : e2 = es := pre_len hpre (by omega)
            have e4 : fixE (f + 1) gr es = es := by unfold fixE; rw [if_pos (by rw [← he]; exact hl)]
            have e5 : e2 = R := by rw [e3, ← hR, e4]
            subst e5
            apply jw [0] [false, false, false, true, true, true] _ _ rfl
            exact done
          · have hbt : b = true := by rw [hb]; exact decide_eq_true hl
            subst hbt
            have hlen := hpre.length_le
            have e4 : fixE (f + 1) gr es = fixE f gr e2 := by
              show (if (passL 0 gr es).length = es.length then es else fixE f gr (passL 0 gr es)) = _
              rw [← he, if_neg hl]
            apply jw [0] [false, false, false, true, true, true] _ _ rfl
            exact ihf e2 ho2 (by omega) (by rw [← e4]; exact hR)
        | succ d im =>
          intro k e2 b hk ho2 hpre hb he
          have hkl : k < gr.length := by omega
          have gk : getL cRow gr (Int.toNat (k : Int)) = cRow gr[k] := by rw [Int.toNat_natCast]; exact getL_at (List.getElem?_eq_getElem hkl)
          have e1 : IntKind.i64.wrap ((k : Int) + 1) = ((k + 1 : Nat) : Int) := by rw [wi64_id (by omega) (by omega)]; omega
          have hrk := hrl gr[k] (List.getElem_mem hkl)
          rw [List.drop_eq_getElem_cons hkl] at he
          have he : passL (k + 1) (gr.drop (k + 1)) (rkStep k gr[k] e2) = passL 0 gr es := he
          have hso := rkStep_ok (r := gr[k]) hkl ho2
          have hsp := hpre.trans (rkStep_pre k gr[k] e2)
          have im := im (k + 1) (rkStep k gr[k] e2)
          have hlen := hpre.length_le
          have hlen2 := ho2.len
          generalize gr[k] = r at *
          have hF : mfind [.i .i64 (k : Int)] (encM kI cI e2) = (aget (k : Int) e2).map cI := mfind_enc kI_inj (k : Int) e2
          cases hg : aget (k : Int) e2 with
          | some v =>
            rw [hg] at hF
            have hF : mfind [.i .i64 (k : Int)] (encM kI cI e2) = some [.int .i64 v] := hF
            rw [rkStep_yes hg] at im he hso hsp
            apply ks
            conv => whnf
            refine Cond.tt (decT (by omega)) ?_
            (conv => whnf) <;> repeat' (first | ((conv => arg 1; whnf); rw [gk]; conv => whnf) | ((conv => arg 1; whnf); rw [hF]; conv => whnf) | ((first | refine wN ?_ | refine wNc ?_ | refine wA ?_ | refine wB ?_ | refine wC ?_ | refine wD ?_ | refine vA ?_ | refine vB ?_ | refine vC ?_ | refine vD ?_ | refine uA ?_ | refine uB ?_ | refine uC ?_ | refine uD ?_); conv => whnf) | ((first | apply Pick.dec | apply Pick.beq | apply Cond.dec | apply Cond.beq | apply Cond.nd | apply Pick.nd | apply Pick.mk | apply Cond.mk) <;> intro h <;> conv => whnf))
            rw [e1]
            apply kw [0] [false, false, false, true, true, true, false, false, false, false, false, false, false, false, false, false, false, false, false, false, true, true, true] _ _ rfl
            exact im b (by omega) hso hsp hb he
          | none =>
            rw [hg] at hF
            have hF : mfind [.i .i64 (k : Int)] (encM kI cI e2) = none := hF
            have hst := rkStep_no (r := r) hg
            have hml := mostOf_lt ho2.val (r := r) (m := -1)
            apply ks
            conv => whnf
            refine Cond.tt (decT (by omega)) ?_
            (conv => whnf) <;> repeat' (first | ((conv => arg 1; whnf); rw [gk]; conv => whnf) | ((conv => arg 1; whnf); rw [hF]; conv => whnf) | ((first | refine wN ?_ | refine wNc ?_ | refine wA ?_ | refine wB ?_ | refine wC ?_ | refine wD ?_ | refine vA ?_ | refine vB ?_ | refine vC ?_ | refine vD ?_ | refine uA ?_ | refine uB ?_ | refine uC ?_ | refine uD ?_); conv => whnf) | ((first | apply Pick.dec | apply Pick.beq | apply Cond.dec | apply Cond.beq | apply Cond.nd | apply Pick.nd | apply Pick.mk | apply Cond.mk) <;> intro h <;> conv => whnf))
            intro I iw is
            have most : ∀ (e i : Nat) (m : Int) (a : Bool), i + e = r.length → hasAll e2 r = (a && hasAll e2 (r.drop i)) → mostOf e2 (-1) r = mostOf e2 m (r.drop i) →
                I [.und, .und, .und, eL 1 cRow gr, .map 0, .bool b, .int .i64 (k : Int), .und, .und, .und, .int .i64 m, .bool a, .und, .und, .und, .und, .und, .und, .und, .und, eL 1 cRow gr, .int .i64 (gr.length : Int), .int .i64 (k : Int), .und, .und, .und, .und, .und, .und, .und, .und, .und, .und, .und, eL 1 cI r, .int .i64 (r.length : Int), .int .i64 (i : Int), .und, .und, .und, .und, .und, .und, .und, .und, .und, .und, .und, .und, .und, .und, .und, .und, .und, .und, .und, .und, .und, .und, .und, .und] [mapZ e2] := by
              intro e
              induction e with
              | zero =>
                intro i m a hi ha hm
                rw [List.drop_of_length_le (by omega)] at ha hm
                have ha : hasAll e2 r = a := by rw [ha]; exact Bool.and_true a
                have hm : mostOf e2 (-1) r = m := hm
                apply is
                conv => whnf
                refine Cond.ff (decF (by omega)) ?_
                cases a with
                | true =>
                  rw [ha, if_pos rfl, hm] at hst
                  have hml := hml ha (by omega) (by omega)
                  rw [hm] at hml
                  have ew : IntKind.i64.wrap (m + 1) = m + 1 := wi64_id (by omega) (by omega)
                  have hP : mput [.i .i64 (k : Int)] [.int .i64 (m + 1)] (encM kI cI e2) = encM kI cI (aput (k : Int) (m + 1) e2) := mput_enc (ev := cI) kI_inj (k : Int) (m + 1) e2
                  rw [← hst] at hP
                  have hlen3 : (rkStep k r e2).length = e2.length + 1 := by rw [hst, aput_new (aget_none.1 hg)]; simp
                  (conv => whnf) <;> repeat' (first | ((first | refine wN ?_ | refine wNc ?_ | refine wA ?_ | refine wB ?_ | refine wC ?_ | refine wD ?_ | refine vA ?_ | refine vB ?_ | refine vC ?_ | refine vD ?_ | refine uA ?_ | refine uB ?_ | refine uC ?_ | refine uD ?_); conv => whnf) | ((first | apply Pick.dec | apply Pick.beq | apply Cond.dec | apply Cond.beq | apply Cond.nd | apply Pick.nd | apply Pick.mk | apply Cond.mk) <;> intro h <;> conv => whnf))
                  rw [e1, ew, hP]
                  apply kw [0] [false, false, false, true, true, true, false, false, false, false, false, false, false, false, false, false, false, false, false, false, true, true, true] _ _ rfl
                  exact im true (by omega) hso hsp (decide_eq_true (by omega)).symm he
                | false =>
                  rw [ha, if_neg (by decide)] at hst
                  rw [hst] at im he hso hsp
                  (conv => whnf) <;> repeat' (first | ((first | refine wN ?_ | refine wNc ?_ | refine wA ?_ | refine wB ?_ | refine wC ?_ | refine wD ?_ | refine vA ?_ | refine vB ?_ | refine vC ?_ | refine vD ?_ | refine uA ?_ | refine uB ?_ | refine uC ?_ | refine uD ?_); conv => whnf) | ((first | apply Pick.dec | apply Pick.beq | apply Cond.dec | apply Cond.beq | apply Cond.nd | apply Pick.nd | apply Pick.mk | apply Cond.mk) <;> intro h <;> conv => whnf))
                  rw [e1]
                  apply kw [0] [false, false, false, true, true, true, false, false, false, false, false, false, false, false, false, false, false, false, false, false, true, true, true] _ _ rfl
                  exact im b (by omega) hso hsp hb he
              | succ e ie =>
                intro i m a hi ha hm
                have hil : i < r.length := by omega
                have gi : getL cI r (Int.toNat (i : Int)) = cI r[i] := by rw [Int.toNat_natCast]; exact getL_at (List.getElem?_eq_getElem hil)
                have e3 : IntKind.i64.wrap ((i : Int) + 1) = ((i + 1 : Nat) : Int) := by rw [wi64_id (by omega) (by omega)]; omega
                rw [List.drop_eq_getElem_cons hil] at ha hm
                rw [hasAll_cons] at ha
                have hm : mostOf e2 (-1) r = mostOf e2 (pickM true m ((aget r[i] e2).getD 0)) (r.drop (i + 1)) := hm
                generalize r[i] = j at *
                have hFj : mfind [.i .i64 j] (encM kI cI e2) = (aget j e2).map cI := mfind_enc kI_inj j e2
                cases hj : aget j e2 with
                | some w =>
                  rw [hj] at hFj ha hm
                  have hFj : mfind [.i .i64 j] (encM kI cI e2) = some [.int .i64 w] := hFj
                  have ie := ie (i + 1) (pickM true m w) a (by omega) (by rw [ha]; rfl) hm
                  apply is
                  conv => whnf
                  refine Cond.tt (decT (by omega)) ?_
                  cases a
                  all_goals
                    (conv => whnf) <;> repeat' (first | ((conv => arg 1; whnf); rw [gi]; conv => whnf) | ((conv => arg 1; whnf); rw [hFj]; conv => whnf) | ((first | refine wN ?_ | refine wNc ?_ | refine wA ?_ | refine wB ?_ | refine wC ?_ | refine wD ?_ | refine vA ?_ | refine vB ?_ | refine vC ?_ | refine vD ?_ | refine uA ?_ | refine uB ?_ | refine uC ?_ | refine uD ?_); conv => whnf) | ((first | apply Pick.dec | apply Pick.beq | apply Cond.dec | apply Cond.beq | apply Cond.nd | apply Pick.nd | apply Pick.mk | apply Cond.mk) <;> intro h <;> conv => whnf))
                    rw [e3]
                    apply iw [0] [false, false, false, true, true, true, true, false, false, false, true, true, false, false, false, false, false, false, false, false, true, true, true, false, false, false, false, false, false, false, false, false, false, false, true, true, true] _ _ rfl
                    exact ie
                | none =>
                  rw [hj] at hFj ha hm
                  have hFj : mfind [.i .i64 j] (encM kI cI e2) = none := hFj
                  have ie := ie (i + 1) (pickM true m 0) false (by omega) (by rw [ha]; cases a <;> rfl) hm
                  apply is
                  conv => whnf
                  refine Cond.tt (decT (by omega)) ?_
                  cases a
                  all_goals
                    (conv => whnf) <;> repeat' (first | ((conv => arg 1; whnf); rw [gi]; conv => whnf) | ((conv => arg 1; whnf); rw [hFj]; conv => whnf) | ((first | refine wN ?_ | refine wNc ?_ | refine wA ?_ | refine wB ?_ | refine wC ?_ | refine wD ?_ | refine vA ?_ | refine vB ?_ | refine vC ?_ | refine vD ?_ | refine uA ?_ | refine uB ?_ | refine uC ?_ | refine uD ?_); conv => whnf) | ((first | apply Pick.dec | apply Pick.beq | apply Cond.dec | apply Cond.beq | apply Cond.nd | apply Pick.nd | apply Pick.mk | apply Cond.mk) <;> intro h <;> conv => whnf))
                    rw [e3]
                    apply iw [0] [false, false, false, true, true, true, true, false, false, false, true, true, false, false, false, false, false, false, false, false, true, true, true, false, false, false, false, false, false, false, false, false, false, false, true, true, true] _ _ rfl
                    exact ie
            apply iw [0] [false, false, false, true, true, true, true, false, false, false, true, true, false, false, false, false, false, false, false, false, true, true, true, false, false, false, false, false, false, false, false, false, false, false, true, true, true] _ _ rfl
            exact most r.length 0 (-1) true (by omega) (by rw [List.drop_zero]; rfl) rfl
      apply kw [0] [false, false, false, true, true, true, false, false, false, false, false, false, false, false, false, false, false, false, false, false, true, true, true] _ _ rfl
      exact inner gr.length 0 es false (by omega) ho List.prefix_rfl (by simp) rfl
  apply jw [0] [false, false, false, true, true, true] _ _ rfl
  exact pass (gr.length + 1) [] (.nil _) (by simp) hfin
theorem ranked_ret (l : List Se) (hL : LOk l) : Ret Try.prog 43 [eL 5 cSe l] [] (.map 0) [mapZ (rankE (graphF l))] :=
  ranked_go l (graphF l) (graph_ret l hL) (by rw [graphF_len]; exact hL.many) fun r hr => by
    obtain ⟨k, hk, rfl⟩ := List.mem_iff_getElem.1 hr
    rw [graphF_at]
    exact readsF_len l _ hL
end Go.Proofs.Ythjgnmpnagmeoaa

set_option linter.unusedVariables false
set_option linter.unusedSimpArgs false
set_option maxRecDepth 100000
namespace Go.Proofs.Ythjgnmpnagmeoaa
open Go.AM
set_option maxHeartbeats 4000000 in
theorem stuck_go (l : List Se) (hL : LOk l) (full : List (Int)) (hfull : full = cmpZ (fun (k : Nat) => (aget (k : Int) (rankE (graphF l))).isNone) (fun (k : Nat) => (k : Int)) (manyN l) 0) (vt : Val) (ht : List Blk) (h0 : full = [] → vt = .nils ∧ ht = []) (h1 : full ≠ [] → vt = .row 0 full.length ∧ ht = [.row 3 1 full.length (getL cI full) 0]) :
    Ret Try.prog 18 [eL 5 cSe l] [] vt ht := by
  have hM := many_ret l hL.len hL.many
  have hm := hL.many
  have hRk := ranked_ret l hL
  have hel : (encM kI cI (rankE (graphF l))).length = (rankE (graphF l)).length := by simp [encM]
  generalize rankE (graphF l) = R at *
  refine ret_of_body atNone tok mixed Try.func18 (by kernel_rfl) rfl (k := 29) (rs := [.tmp 2]) (by kernel_rfl) (by kernel_rfl) ?_
  (conv => whnf) <;> repeat' (first | ((first | refine wN ?_ | refine wNc ?_ | refine wA ?_ | refine wB ?_ | refine wC ?_ | refine wD ?_ | refine Called.mk _ _ (hRk) ?_ | refine Called.mk _ _ (hM) ?_ | refine vA ?_ | refine vB ?_ | refine vC ?_ | refine vD ?_ | refine uA ?_ | refine uB ?_ | refine uC ?_ | refine uD ?_); conv => whnf) | ((first | apply Pick.dec | apply Pick.beq | apply Cond.dec | apply Cond.beq | apply Cond.nd | apply Pick.nd | apply Pick.mk | apply Cond.mk) <;> intro h <;> conv => whnf))
  intro J jw js
  have turn : ∀ (d k : Nat) (out : List (Int)), k + d = manyN l → out.length ≤ k → full = out ++ cmpZ (fun (k : Nat) => (aget (k : Int) R).isNone) (fun (k : Nat) => (k : Int)) d k →
      (out = [] → J [.und, .und, .und, .map 0, .nils, .und, .und, .und, .und, .und, .und, .int .i64 ((manyN l : Nat) : Int), .int .i64 (k : Int), .und, .und, .und, .und, .und, .und, .und, .und, .und, .und, .und, .und, .und, .und, .und, .und] [mapZ R]) ∧ (out ≠ [] → J [.und, .und, .und, .map 0, .row 1 out.length, .und, .und, .und, .und, .und, .und, .int .i64 ((manyN l : Nat) : Int), .int .i64 (k : Int), .und, .und, .und, .und, .und, .und, .und, .und, .und, .und, .und, .und, .und, .und, .und, .und] [mapZ R, .row 3 1 out.length (getL cI out) 0]) := by
    intro d
    induction d with
    | zero =>
      intro k out hk ho he
      have he : full = out := he.trans (List.append_nil _)
      rw [he] at h0 h1
      refine ⟨fun hn => ?_, fun hn => ?_⟩
      · obtain ⟨rfl, rfl⟩ := h0 hn
        apply js
        (conv => whnf) <;> repeat' (first | ((first | refine wN ?_ | refine wNc ?_ | refine wA ?_ | refine wB ?_ | refine wC ?_ | refine wD ?_ | refine Called.mk _ _ (hRk) ?_ | refine Called.mk _ _ (hM) ?_ | refine vA ?_ | refine vB ?_ | refine vC ?_ | refine vD ?_ | refine uA ?_ | refine uB ?_ | refine uC ?_ | refine uD ?_); conv => whnf) | ((first | apply Pick.dec | apply Pick.beq | apply Cond.dec | apply Cond.beq | apply Cond.nd | apply Pick.nd | apply Pick.mk | apply Cond.mk) <;> intro h <;> conv => whnf))
        exact End.mk rfl rfl
      · obtain ⟨rfl, rfl⟩ := h1 hn
        apply js
        (conv => whnf) <;> repeat' (first | ((first | refine wN ?_ | refine wNc ?_ | refine wA ?_ | refine wB ?_ | refine wC ?_ | refine wD ?_ | refine Called.mk _ _ (hRk) ?_ | refine Called.mk _ _ (hM) ?_ | refine vA ?_ | refine vB ?_ | refine vC ?_ | refine vD ?_ | refine uA ?_ | refine uB ?_ | refine uC ?_ | refine uD ?_); conv => whnf) | ((first | apply Pick.dec | apply Pick.beq | apply Cond.dec | apply Cond.beq | apply Cond.nd | apply Pick.nd | apply Pick.mk | apply Cond.mk) <;> intro h <;> conv => whnf))
        exact EndH.mk [1] rfl rfl rfl
    | succ d im =>
      intro k out hk ho he
      have hkN : k < manyN l := by omega
      have e1 : IntKind.i64.wrap ((k : Int) + 1) = ((k + 1 : Nat) : Int) := by rw [wi64_id (by omega) (by omega)]; omega
      have imS := im (k + 1) out (by omega) (by omega)
      have imG := im (k + 1) (out ++ [(k : Int)]) (by omega) (by rw [List.length_append]; simp; omega)
      have elen : (out ++ [(k : Int)]).length = out.length + 1 := by simp
      have he : full = out ++ (if (aget (k : Int) R).isNone = true then (k : Int) :: cmpZ (fun (k : Nat) => (aget (k : Int) R).isNone) (fun (k : Nat) => (k : Int)) d (k + 1) else cmpZ (fun (k : Nat) => (aget (k : Int) R).isNone) (fun (k : Nat) => (k : Int)) d (k + 1)) := he
      have hF : mfind [.i .i64 (k : Int)] (encM kI cI R) = (aget (k : Int) R).map cI := mfind_enc kI_inj (k : Int) R
      by_cases hp : (aget (k : Int) R).isNone = true
      · rw [if_pos hp] at he
        have imG := (imG (by rw [he]; simp)).2 (by simp)
        rw [elen] at imG
        have hF : mfind [.i .i64 (k : Int)] (encM kI cI R) = none := by rw [hF]; cases ha : aget (k : Int) R with | none => rfl | some v => rw [ha] at hp; cases hp
        refine ⟨fun hn => ?_, fun hn => ?_⟩
        · subst hn
          apply js
          (conv => whnf) <;> repeat' (first | ((conv => arg 1; whnf); rw [hF]; conv => whnf) | (rw [getI_one]; conv => whnf) | ((first | refine wN ?_ | refine wNc ?_ | refine wA ?_ | refine wB ?_ | refine wC ?_ | refine wD ?_ | refine vA ?_ | refine vB ?_ | refine vC ?_ | refine vD ?_ | refine uA ?_ | refine uB ?_ | refine uC ?_ | refine uD ?_); conv => whnf) | ((first | apply Pick.dec | apply Pick.beq | apply Cond.dec | apply Cond.beq | apply Cond.nd | apply Pick.nd | apply Pick.mk | apply Cond.mk) <;> intro h <;> conv => whnf))
          rw [e1]
          apply jw [0, 2] [false, false, false, true, true, false, false, false, false, false, false, true, true] _ _ rfl
          exact imG
        · apply js
          (conv => whnf) <;> repeat' (first | ((conv => arg 1; whnf); rw [hF]; conv => whnf) | (rw [getI_snoc]; conv => whnf) | ((first | refine wN ?_ | refine wNc ?_ | refine wA ?_ | refine wB ?_ | refine wC ?_ | refine wD ?_ | refine vA ?_ | refine vB ?_ | refine vC ?_ | refine vD ?_ | refine uA ?_ | refine uB ?_ | refine uC ?_ | refine uD ?_); conv => whnf) | ((first | apply Pick.dec | apply Pick.beq | apply Cond.dec | apply Cond.beq | apply Cond.nd | apply Pick.nd | apply Pick.mk | apply Cond.mk) <;> intro h <;> conv => whnf))
          rw [e1]
          apply jw [0, 3] [false, false, false, true, true, false, false, false, false, false, false, true, true] _ _ rfl
          exact imG
      · rw [if_neg hp] at he
        have imS := imS he
        obtain ⟨v, hv⟩ : ∃ v, aget (k : Int) R = some v := by cases ha : aget (k : Int) R with | none => exact absurd (by rw [ha]; rfl) hp | some v => exact ⟨v, rfl⟩
        have hF : mfind [.i .i64 (k : Int)] (encM kI cI R) = some [.int .i64 v] := by rw [hF, hv]; rfl
        refine ⟨fun hn => ?_, fun hn => ?_⟩
        · apply js
          (conv => whnf) <;> repeat' (first | ((conv => arg 1; whnf); rw [hF]; conv => whnf) | ((first | refine wN ?_ | refine wNc ?_ | refine wA ?_ | refine wB ?_ | refine wC ?_ | refine wD ?_ | refine vA ?_ | refine vB ?_ | refine vC ?_ | refine vD ?_ | refine uA ?_ | refine uB ?_ | refine uC ?_ | refine uD ?_); conv => whnf) | ((first | apply Pick.dec | apply Pick.beq | apply Cond.dec | apply Cond.beq | apply Cond.nd | apply Pick.nd | apply Pick.mk | apply Cond.mk) <;> intro h <;> conv => whnf))
          rw [e1]
          apply jw [0] [false, false, false, true, true, false, false, false, false, false, false, true, true] _ _ rfl
          exact imS.1 hn
        · apply js
          (conv => whnf) <;> repeat' (first | ((conv => arg 1; whnf); rw [hF]; conv => whnf) | ((first | refine wN ?_ | refine wNc ?_ | refine wA ?_ | refine wB ?_ | refine wC ?_ | refine wD ?_ | refine vA ?_ | refine vB ?_ | refine vC ?_ | refine vD ?_ | refine uA ?_ | refine uB ?_ | refine uC ?_ | refine uD ?_); conv => whnf) | ((first | apply Pick.dec | apply Pick.beq | apply Cond.dec | apply Cond.beq | apply Cond.nd | apply Pick.nd | apply Pick.mk | apply Cond.mk) <;> intro h <;> conv => whnf))
          rw [e1]
          apply jw [0, 1] [false, false, false, true, true, false, false, false, false, false, false, true, true] _ _ rfl
          exact imS.2 hn
  apply jw [0] [false, false, false, true, true, false, false, false, false, false, false, true, true] _ _ rfl
  exact (turn (manyN l) 0 [] (by omega) (by simp) (by rw [hfull]; rfl)).1 rfl
theorem stuck_ret (l : List Se) (hL : LOk l) : Ret Try.prog 18 [eL 5 cSe l] [] (eL 1 cI (stuckF (manyN l) (rankE (graphF l)))) [] := by
  have hf : (stuckF (manyN l) (rankE (graphF l))) = cmpZ (fun (k : Nat) => (aget (k : Int) (rankE (graphF l))).isNone) (fun (k : Nat) => (k : Int)) (manyN l) 0 := (by rw [cmpZ_filter (fun k => (aget k (rankE (graphF l))).isNone)]; unfold stuckF zeroTo; rw [List.range_eq_range'])
  by_cases he : (stuckF (manyN l) (rankE (graphF l))) = []
  · have h := stuck_go l hL (stuckF (manyN l) (rankE (graphF l))) hf .nils [] (fun _ => ⟨rfl, rfl⟩) (fun k => absurd he k)
    rw [he]
    exact h.leR le_nils
  · have h := stuck_go l hL (stuckF (manyN l) (rankE (graphF l))) hf _ _ (fun k => absurd k he) (fun _ => ⟨rfl, rfl⟩)
    exact h.lend ⟨rfl, Nat.le_refl _, Nat.le_refl _⟩ rfl
set_option maxHeartbeats 4000000 in
theorem ranksT_go (l : List Se) (hL : LOk l) (hfu : ¬ (rankE (graphF l)).length < manyN l) (full : List (Int)) (hfull : full = cmpZ (fun _ => true) (fun (k : Nat) => rkOf (rankE (graphF l)) (k : Int)) (manyN l) 0) (vt : Val) (ht : List Blk) (h0 : full = [] → vt = .tup [.nils, .int .i64 0] ∧ ht = []) (h1 : full ≠ [] → vt = .tup [.row 0 full.length, .int .i64 0] ∧ ht = [.row 3 1 full.length (getL cI full) 0]) :
    Ret Try.prog 14 [eL 5 cSe l] [] vt ht := by
  have hM := many_ret l hL.len hL.many
  have hm := hL.many
  have hRk := ranked_ret l hL
  have hel : (encM kI cI (rankE (graphF l))).length = (rankE (graphF l)).length := by simp [encM]
  have hall : ∀ k : Nat, k < manyN l → ∃ v, aget (k : Int) (rankE (graphF l)) = some v := fun k hk => by
    obtain ⟨v, h, _⟩ := full_has (g := graphF l) (by rw [graphF_len]; exact hfu) (k := (k : Int)) (by omega) (by rw [graphF_len]; omega)
    exact ⟨v, h⟩
  generalize rankE (graphF l) = R at *
  refine ret_of_body atNone tok mixed Try.func14 (by kernel_rfl) rfl (k := 27) (rs := [.tmp 2, .tmp 3]) (by kernel_rfl) (by kernel_rfl) ?_
  (conv => whnf) <;> repeat' (first | (rw [hel]; conv => whnf) | ((first | refine wN ?_ | refine wNc ?_ | refine wA ?_ | refine wB ?_ | refine wC ?_ | refine wD ?_ | refine Called.mk _ _ (hRk) ?_ | refine Called.mk _ _ (hM) ?_ | refine vA ?_ | refine vB ?_ | refine vC ?_ | refine vD ?_ | refine uA ?_ | refine uB ?_ | refine uC ?_ | refine uD ?_); conv => whnf) | ((first | apply Pick.dec | apply Pick.beq | apply Cond.dec | apply Cond.beq | apply Cond.nd | apply Pick.nd | apply Pick.mk | apply Cond.mk) <;> intro h <;> conv => whnf))
  intro J jw js
  have turn : ∀ (d k : Nat) (out : List (Int)), k + d = manyN l → out.length ≤ k → full = out ++ cmpZ (fun _ => true) (fun (k : Nat) => rkOf R (k : Int)) d k →
      (out = [] → J [.und, .und, .und, .und, .map 0, .nils, .und, .und, .und, .und, .und, .und, .und, .und, .und, .int .i64 ((manyN l : Nat) : Int), .int .i64 (k : Int), .und, .und, .und, .und, .und, .und, .und, .und, .und, .und] [mapZ R]) ∧ (out ≠ [] → J [.und, .und, .und, .und, .map 0, .row 1 out.length, .und, .und, .und, .und, .und, .und, .und, .und, .und, .int .i64 ((manyN l : Nat) : Int), .int .i64 (k : Int), .und, .und, .und, .und, .und, .und, .und, .und, .und, .und] [mapZ R, .row 3 1 out.length (getL cI out) 0]) := by
    intro d
    induction d with
    | zero =>
      intro k out hk ho he
      have he : full = out := he.trans (List.append_nil _)
      rw [he] at h0 h1
      refine ⟨fun hn => ?_, fun hn => ?_⟩
      · obtain ⟨rfl, rfl⟩ := h0 hn
        apply js
        (conv => whnf) <;> repeat' (first | (rw [hel]; conv => whnf) | ((first | refine wN ?_ | refine wNc ?_ | refine wA ?_ | refine wB ?_ | refine wC ?_ | refine wD ?_ | refine Called.mk _ _ (hRk) ?_ | refine Called.mk _ _ (hM) ?_ | refine vA ?_ | refine vB ?_ | refine vC ?_ | refine vD ?_ | refine uA ?_ | refine uB ?_ | refine uC ?_ | refine uD ?_); conv => whnf) | ((first | apply Pick.dec | apply Pick.beq | apply Cond.dec | apply Cond.beq | apply Cond.nd | apply Pick.nd | apply Pick.mk | apply Cond.mk) <;> intro h <;> conv => whnf))
        exact End.mk rfl rfl
      · obtain ⟨rfl, rfl⟩ := h1 hn
        apply js
        (conv => whnf) <;> repeat' (first | (rw [hel]; conv => whnf) | ((first | refine wN ?_ | refine wNc ?_ | refine wA ?_ | refine wB ?_ | refine wC ?_ | refine wD ?_ | refine Called.mk _ _ (hRk) ?_ | refine Called.mk _ _ (hM) ?_ | refine vA ?_ | refine vB ?_ | refine vC ?_ | refine vD ?_ | refine uA ?_ | refine uB ?_ | refine uC ?_ | refine uD ?_); conv => whnf) | ((first | apply Pick.dec | apply Pick.beq | apply Cond.dec | apply Cond.beq | apply Cond.nd | apply Pick.nd | apply Pick.mk | apply Cond.mk) <;> intro h <;> conv => whnf))
        exact EndH.mk [1] rfl rfl rfl
    | succ d im =>
      intro k out hk ho he
      have hkN : k < manyN l := by omega
      have e1 : IntKind.i64.wrap ((k : Int) + 1) = ((k + 1 : Nat) : Int) := by rw [wi64_id (by omega) (by omega)]; omega
      have imS := im (k + 1) out (by omega) (by omega)
      have imG := im (k + 1) (out ++ [rkOf R (k : Int)]) (by omega) (by rw [List.length_append]; simp; omega)
      have elen : (out ++ [rkOf R (k : Int)]).length = out.length + 1 := by simp
      have he : full = out ++ (if true = true then rkOf R (k : Int) :: cmpZ (fun _ => true) (fun (k : Nat) => rkOf R (k : Int)) d (k + 1) else cmpZ (fun _ => true) (fun (k : Nat) => rkOf R (k : Int)) d (k + 1)) := he
      have hF : mfind [.i .i64 (k : Int)] (encM kI cI R) = (aget (k : Int) R).map cI := mfind_enc kI_inj (k : Int) R
      obtain ⟨v, hv⟩ := hall k hkN
      have hrv : rkOf R (k : Int) = v := by unfold rkOf; rw [hv]; rfl
      have hF : mfind [.i .i64 (k : Int)] (encM kI cI R) = some [.int .i64 v] := by rw [hF, hv]; rfl
      rw [hrv] at imG
      rw [hrv] at he
      rw [hrv] at elen
      by_cases hp : true = true
      · rw [if_pos hp] at he
        have imG := (imG (by rw [he]; simp)).2 (by simp)
        rw [elen] at imG

        refine ⟨fun hn => ?_, fun hn => ?_⟩
        · subst hn
          apply js
          (conv => whnf) <;> repeat' (first | ((conv => arg 1; whnf); rw [hF]; conv => whnf) | (rw [getI_one]; conv => whnf) | ((first | refine wN ?_ | refine wNc ?_ | refine wA ?_ | refine wB ?_ | refine wC ?_ | refine wD ?_ | refine vA ?_ | refine vB ?_ | refine vC ?_ | refine vD ?_ | refine uA ?_ | refine uB ?_ | refine uC ?_ | refine uD ?_); conv => whnf) | ((first | apply Pick.dec | apply Pick.beq | apply Cond.dec | apply Cond.beq | apply Cond.nd | apply Pick.nd | apply Pick.mk | apply Cond.mk) <;> intro h <;> conv => whnf))
          rw [e1]
          apply jw [0, 2] [false, false, false, false, true, true, false, false, false, false, false, false, false, false, false, true, true] _ _ rfl
          exact imG
        · apply js
          (conv => whnf) <;> repeat' (first | ((conv => arg 1; whnf); rw [hF]; conv => whnf) | (rw [getI_snoc]; conv => whnf) | ((first | refine wN ?_ | refine wNc ?_ | refine wA ?_ | refine wB ?_ | refine wC ?_ | refine wD ?_ | refine vA ?_ | refine vB ?_ | refine vC ?_ | refine vD ?_ | refine uA ?_ | refine uB ?_ | refine uC ?_ | refine uD ?_); conv => whnf) | ((first | apply Pick.dec | apply Pick.beq | apply Cond.dec | apply Cond.beq | apply Cond.nd | apply Pick.nd | apply Pick.mk | apply Cond.mk) <;> intro h <;> conv => whnf))
          rw [e1]
          apply jw [0, 3] [false, false, false, false, true, true, false, false, false, false, false, false, false, false, false, true, true] _ _ rfl
          exact imG
      · exact absurd rfl hp
  apply jw [0] [false, false, false, false, true, true, false, false, false, false, false, false, false, false, false, true, true] _ _ rfl
  exact (turn (manyN l) 0 [] (by omega) (by simp) (by rw [hfull]; rfl)).1 rfl
theorem rOf_cmp (M : Nat) (es : RkM) : rOf M es = cmpZ (fun _ => true) (fun (k : Nat) => rkOf es (k : Int)) M 0 := by
  rw [cmpZ_map]
  unfold rOf zeroTo
  rw [List.map_map, List.range_eq_range']
  rfl
theorem le_tup {l l' : List Val} (h : LeL l l') : (Val.tup l).le (.tup l') := fun ι φ u hr => by
  cases hr with
  | c hc => cases hc
  | tup _ us hs hr =>
    exact .tup l' us (by rw [h.length]; exact hs) fun i hi => h.get i (by rw [← h.length]; exact hi) _ _ _ (hr i (by rw [← h.length]; exact hi))
theorem ranks_ret (l : List Se) (hL : LOk l) : Ret Try.prog 14 [eL 5 cSe l] [] (.tup [eL 1 cI (ranksF (graphF l)).1, .int .i64 (ranksF (graphF l)).2]) [] := by
  unfold ranksF
  rw [graphF_len]
  by_cases h : (rankE (graphF l)).length < manyN l
  · rw [if_pos h]
    have hg : Ret Try.prog 14 [eL 5 cSe l] [] (.tup [.nils, .int .i64 110]) [] := by
      have hM := many_ret l hL.len hL.many
      have hRk := ranked_ret l hL
      have hel : (encM kI cI (rankE (graphF l))).length = (rankE (graphF l)).length := by simp [encM]
      generalize rankE (graphF l) = R at *
      refine ret_of_body atNone tok mixed Try.func14 (by kernel_rfl) rfl (k := 27) (rs := [.tmp 2, .tmp 3]) (by kernel_rfl) (by kernel_rfl) ?_
      (conv => whnf) <;> repeat' (first | (rw [hel]; conv => whnf) | ((first | refine wN ?_ | refine wNc ?_ | refine wA ?_ | refine wB ?_ | refine wC ?_ | refine wD ?_ | refine Called.mk _ _ (hRk) ?_ | refine Called.mk _ _ (hM) ?_ | refine vA ?_ | refine vB ?_ | refine vC ?_ | refine vD ?_ | refine uA ?_ | refine uB ?_ | refine uC ?_ | refine uD ?_); conv => whnf) | ((first | apply Pick.dec | apply Pick.beq | apply Cond.dec | apply Cond.beq | apply Cond.nd | apply Pick.nd | apply Pick.mk | apply Cond.mk) <;> intro h <;> conv => whnf))
      exact End.mk rfl rfl
    exact hg.leR (le_tup (.cons le_nils (.cons (.refl _) .nil)))
  · rw [if_neg h]
    have hf := rOf_cmp (manyN l) (rankE (graphF l))
    show Ret _ _ _ _ (.tup [eL 1 cI (rOf (manyN l) (rankE (graphF l))), .int .i64 0]) _
    by_cases he : rOf (manyN l) (rankE (graphF l)) = []
    · have hg := ranksT_go l hL h (rOf (manyN l) (rankE (graphF l))) hf _ _ (fun _ => ⟨rfl, rfl⟩) (fun k => absurd he k)
      rw [he]
      exact hg.leR (le_tup (.cons le_nils (.cons (.refl _) .nil)))
    · have hg := ranksT_go l hL h (rOf (manyN l) (rankE (graphF l))) hf _ _ (fun k => absurd k he) (fun _ => ⟨rfl, rfl⟩)
      exact hg.lendT ⟨rfl, Nat.le_refl _, Nat.le_refl _⟩ rfl
end Go.Proofs.Ythjgnmpnagmeoaa

