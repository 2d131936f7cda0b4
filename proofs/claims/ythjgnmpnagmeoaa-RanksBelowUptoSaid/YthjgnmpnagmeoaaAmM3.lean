/- exciseref11.reads, Reads. Printed by wip/tools/rkreads.py. -/
import Derived.Test.YthjgnmpnagmeoaaAmIi
set_option linter.unusedVariables false
set_option linter.unusedSimpArgs false
set_option maxRecDepth 100000
namespace Go.Proofs.Ythjgnmpnagmeoaa
open Go.AM
set_option maxHeartbeats 8000000 in
theorem rreads_ret (l : List Se) (hL : LOk l) (sec : Int) (x : Xp) : x.Wf → ∀ out : List Int, out.length + cntX x ≤ 1048576 → Ret Try.prog 46 [eL 5 cSe l, .int .i64 sec, eE x, eL 1 cI out] [] (eL 1 cI (readsO l sec x out)) [] := by
  refine Xp.ind (Q := fun x => x.Wf → ∀ out : List Int, out.length + cntX x ≤ 1048576 → Ret Try.prog 46 [eL 5 cSe l, .int .i64 sec, eE x, eL 1 cI out] [] (eL 1 cI (readsO l sec x out)) []) ?_ x
  clear x
  intro x ih hx out hb
  have hm : maxLen ≤ 9223372036854775807 := by decide
  have har := hx.one.len
  have hl64 := hL.len
  have hmany := hL.many
  obtain ⟨k, o, n, s, v, sc, p, ar⟩ := x
  have har : ar.length ≤ maxLen := har
  rw [cntX_mk] at hb
  have ihy : ∀ y ∈ ar, ∀ out : List Int, out.length + cntX y ≤ 1048576 → Ret Try.prog 46 [eL 5 cSe l, .int .i64 sec, eE y, eL 1 cI out] [] (eL 1 cI (readsO l sec y out)) [] := fun y hy => ih y hy (hx.arg hy)
  have hF := rFind_ret l sec n hL.len (fun x hx => (hL.ok x hx).1)
  have hKd := rKid_ret l sec s hL.len
  have e0 : readsO l sec (.mk k o n s v sc p ar) out = walkL (rdsF l sec) ar (putK' (ownK l sec (.mk k o n s v sc p ar)) out) := walkF_mk ..
  have ho := putK'_len (ownK l sec (.mk k o n s v sc p ar)) out
  rw [e0]
  obtain ⟨rF, hrF⟩ : ∃ rF, walkL (rdsF l sec) ar (putK' (ownK l sec (.mk k o n s v sc p ar)) out) = rF := ⟨_, rfl⟩
  rw [hrF, cE_mk]
  clear e0 hx ih
  by_cases k2 : k = 2
  · subst k2
    have hown : ownK l sec (.mk 2 o n s v sc p ar) = if (findF l sec n).2.2 = true then some (numF l (findF l sec n).1 (findF l sec n).2.1).1 else none := if_pos rfl
    rw [hown] at hrF ho
    clear hown hKd
    by_cases hf : (findF l sec n).2.2 = true
    · rw [if_pos hf] at hrF ho
      have hN := rNumber_ret l (findF l sec n).1 (findF l sec n).2.1 ?_ hl64 hmany
      · have hP := put_ret out (numF l (findF l sec n).1 (findF l sec n).2.1).1 (by omega)
        have hrF : walkL (rdsF l sec) ar (putO (numF l (findF l sec n).1 (findF l sec n).2.1).1 out) = rF := hrF
        have ho : (putO (numF l (findF l sec n).1 (findF l sec n).2.1).1 out).length ≤ out.length + 1 := ho
        rw [hf] at hF
        generalize numF l (findF l sec n).1 (findF l sec n).2.1 = q at *
        generalize findF l sec n = r at *
        generalize putO q.1 out = o1 at *
        refine ret_of_body atCalls tok mixed Try.func46 (by kernel_rfl) rfl (k := 123) (rs := [.tmp 8]) (by kernel_rfl) (by kernel_rfl) ?_
        (conv => whnf) <;> repeat' (first | ((first | refine wN ?_ | refine wNc ?_ | refine wA ?_ | refine wB ?_ | refine wC ?_ | refine wD ?_ | refine Called.mk _ _ (hF) ?_ | refine Called.mk _ _ (hN) ?_ | refine Called.mk _ _ (hP) ?_ | refine vA ?_ | refine vB ?_ | refine vC ?_ | refine vD ?_ | refine uA ?_ | refine uB ?_ | refine uC ?_ | refine uD ?_); conv => whnf) | ((first | apply Pick.dec | apply Pick.beq | apply Cond.dec | apply Cond.beq | apply Cond.nd | apply Pick.nd | apply Pick.mk | apply Cond.mk) <;> intro h <;> conv => whnf))
        intro I hw hs
        have turn : ∀ (d i : Nat) (o1 : List Int), i + d = ar.length → walkL (rdsF l sec) (ar.drop i) o1 = rF → o1.length + cntL (ar.drop i) ≤ 1048576 → I [eL 5 cSe l, .int .i64 sec, .und, eL 1 cI o1, .und, .und, .ptr 0 0, .und, .und, .und, .und, .und, .und, .und, .und, .und, .und, .und, .und, .und, .int .i64 (i : Int), .und, .und, .und, .und, .und, .und, .und, .und, .und, .und, .und, .und, .und, .und, .und, .und, .und, .und, .und, .und, .und, .und, .und, .und, .und, .und, .und, .und, .und, .und, .und, .und, .und, .und, .und, .und, .und, .und, .und, .und, .und, .und, .und, .und, .und, .und, .und, .und, .und, .und, .und, .und, .und, .und, .und, .und, .und, .und, .und, .und, .und, .und, .und, .und, .und, .und, .und, .und, .und, .und, .und, .und, .und, .und, .und, .und, .und, .und, .und, .und, .und, .und, .und, .und, .und, .und, .und, .und, .und, .und, .und, .und, .und, .und, .und, .und, .und, .und, .und, .und, .und, .und] [.cells [.int .i64 2, .int .i64 o, .str n, .str s, .int .i64 v.kind, .bool v.num.neg, .int .u64 (l0 v.num.n), .int .u64 (l1 v.num.n), .int .u64 (l2 v.num.n), .int .u64 (l3 v.num.n), .int .i64 v.num.scale, .bool v.flag, .str v.text, .int .i64 v.err, .int .i64 sc, .int .i64 p, .ext 17 ar.length (Xp.rows ar)]] := by
          intro d
          induction d with
          | zero =>
            intro i o1 hi hf hb
            rw [List.drop_of_length_le (by omega), walkL_nil] at hf
            subst hf
            apply hs
            conv => whnf
            refine Cond.ff (decF (by omega)) ?_
            (conv => whnf) <;> repeat' (first | ((first | refine wN ?_ | refine wNc ?_ | refine wA ?_ | refine wB ?_ | refine wC ?_ | refine wD ?_ | refine vA ?_ | refine vB ?_ | refine vC ?_ | refine vD ?_ | refine uA ?_ | refine uB ?_ | refine uC ?_ | refine uD ?_); conv => whnf) | ((first | apply Pick.dec | apply Pick.beq | apply Cond.dec | apply Cond.beq | apply Cond.nd | apply Pick.nd | apply Pick.mk | apply Cond.mk) <;> intro h <;> conv => whnf))
            exact End.mk rfl rfl
          | succ d im =>
            intro i o1 hi hf hb
            have hil : i < ar.length := by omega
            have gk : Xp.rows ar (Int.toNat (i : Int)) = cE ar[i] := by rw [Int.toNat_natCast]; exact (Xp.rows_ext ar).2 i hil
            have e1 : IntKind.i64.wrap ((i : Int) + 1) = ((i + 1 : Nat) : Int) := by rw [wi64_id (by omega) (by omega)]; omega
            rw [List.drop_eq_getElem_cons hil] at hf hb
            rw [walkL_cons] at hf
            rw [cntL_cons] at hb
            have hc := ihy ar[i] (List.getElem_mem hil) o1 (by omega)
            have hl := readsO_len l sec ar[i] o1
            have im := im (i + 1) (readsO l sec ar[i] o1) (by omega) hf (by omega)
            generalize readsO l sec ar[i] o1 = o2 at *
            generalize ar[i] = y at *
            apply hs
            conv => whnf
            refine Cond.tt (decT (by omega)) ?_
            (conv => whnf) <;> repeat' (first | ((conv => arg 1; whnf); rw [gk]; conv => whnf) | ((first | refine wN ?_ | refine wNc ?_ | refine wA ?_ | refine wB ?_ | refine wC ?_ | refine wD ?_ | refine Called.mk _ _ (hc) ?_ | refine vA ?_ | refine vB ?_ | refine vC ?_ | refine vD ?_ | refine uA ?_ | refine uB ?_ | refine uC ?_ | refine uD ?_); conv => whnf) | ((first | apply Pick.dec | apply Pick.beq | apply Cond.dec | apply Cond.beq | apply Cond.nd | apply Pick.nd | apply Pick.mk | apply Cond.mk) <;> intro h <;> conv => whnf))
            rw [e1]
            apply hw [0] [true, true, false, true, false, false, true, false, false, false, false, false, false, false, false, false, false, false, false, false, true] _ _ rfl
            exact im
        apply hw [0] [true, true, false, true, false, false, true, false, false, false, false, false, false, false, false, false, false, false, false, false, true] _ _ rfl
        exact turn ar.length 0 o1 (by omega) hrF (by rw [List.drop_zero]; omega)
      · obtain ⟨x, it, h1, h2, h3, _⟩ := findF_true hf
        have h4 := (List.getElem?_eq_some_iff.1 h3).1
        have h5 : x ∈ l := by unfold seAt at h1; split at h1; exact List.mem_of_getElem? h1; cases h1
        have := (hL.ok x h5).1
        omega
    · rw [if_neg hf] at hrF ho
      have hf' : (findF l sec n).2.2 = false := by simpa using hf
      rw [hf'] at hF
      have hrF : walkL (rdsF l sec) ar out = rF := hrF
      generalize findF l sec n = r at *
      refine ret_of_body atCalls tok mixed Try.func46 (by kernel_rfl) rfl (k := 123) (rs := [.tmp 8]) (by kernel_rfl) (by kernel_rfl) ?_
      (conv => whnf) <;> repeat' (first | ((first | refine wN ?_ | refine wNc ?_ | refine wA ?_ | refine wB ?_ | refine wC ?_ | refine wD ?_ | refine Called.mk _ _ (hF) ?_ | refine vA ?_ | refine vB ?_ | refine vC ?_ | refine vD ?_ | refine uA ?_ | refine uB ?_ | refine uC ?_ | refine uD ?_); conv => whnf) | ((first | apply Pick.dec | apply Pick.beq | apply Cond.dec | apply Cond.beq | apply Cond.nd | apply Pick.nd | apply Pick.mk | apply Cond.mk) <;> intro h <;> conv => whnf))
      intro I hw hs
      have turn : ∀ (d i : Nat) (o1 : List Int), i + d = ar.length → walkL (rdsF l sec) (ar.drop i) o1 = rF → o1.length + cntL (ar.drop i) ≤ 1048576 → I [eL 5 cSe l, .int .i64 sec, .und, eL 1 cI o1, .und, .und, .ptr 0 0, .und, .und, .und, .und, .und, .und, .und, .und, .und, .und, .und, .und, .und, .int .i64 (i : Int), .und, .und, .und, .und, .und, .und, .und, .und, .und, .und, .und, .und, .und, .und, .und, .und, .und, .und, .und, .und, .und, .und, .und, .und, .und, .und, .und, .und, .und, .und, .und, .und, .und, .und, .und, .und, .und, .und, .und, .und, .und, .und, .und, .und, .und, .und, .und, .und, .und, .und, .und, .und, .und, .und, .und, .und, .und, .und, .und, .und, .und, .und, .und, .und, .und, .und, .und, .und, .und, .und, .und, .und, .und, .und, .und, .und, .und, .und, .und, .und, .und, .und, .und, .und, .und, .und, .und, .und, .und, .und, .und, .und, .und, .und, .und, .und, .und, .und, .und, .und, .und, .und] [.cells [.int .i64 2, .int .i64 o, .str n, .str s, .int .i64 v.kind, .bool v.num.neg, .int .u64 (l0 v.num.n), .int .u64 (l1 v.num.n), .int .u64 (l2 v.num.n), .int .u64 (l3 v.num.n), .int .i64 v.num.scale, .bool v.flag, .str v.text, .int .i64 v.err, .int .i64 sc, .int .i64 p, .ext 17 ar.length (Xp.rows ar)]] := by
        intro d
        induction d with
        | zero =>
          intro i o1 hi hf hb
          rw [List.drop_of_length_le (by omega), walkL_nil] at hf
          subst hf
          apply hs
          conv => whnf
          refine Cond.ff (decF (by omega)) ?_
          (conv => whnf) <;> repeat' (first | ((first | refine wN ?_ | refine wNc ?_ | refine wA ?_ | refine wB ?_ | refine wC ?_ | refine wD ?_ | refine vA ?_ | refine vB ?_ | refine vC ?_ | refine vD ?_ | refine uA ?_ | refine uB ?_ | refine uC ?_ | refine uD ?_); conv => whnf) | ((first | apply Pick.dec | apply Pick.beq | apply Cond.dec | apply Cond.beq | apply Cond.nd | apply Pick.nd | apply Pick.mk | apply Cond.mk) <;> intro h <;> conv => whnf))
          exact End.mk rfl rfl
        | succ d im =>
          intro i o1 hi hf hb
          have hil : i < ar.length := by omega
          have gk : Xp.rows ar (Int.toNat (i : Int)) = cE ar[i] := by rw [Int.toNat_natCast]; exact (Xp.rows_ext ar).2 i hil
          have e1 : IntKind.i64.wrap ((i : Int) + 1) = ((i + 1 : Nat) : Int) := by rw [wi64_id (by omega) (by omega)]; omega
          rw [List.drop_eq_getElem_cons hil] at hf hb
          rw [walkL_cons] at hf
          rw [cntL_cons] at hb
          have hc := ihy ar[i] (List.getElem_mem hil) o1 (by omega)
          have hl := readsO_len l sec ar[i] o1
          have im := im (i + 1) (readsO l sec ar[i] o1) (by omega) hf (by omega)
          generalize readsO l sec ar[i] o1 = o2 at *
          generalize ar[i] = y at *
          apply hs
          conv => whnf
          refine Cond.tt (decT (by omega)) ?_
          (conv => whnf) <;> repeat' (first | ((conv => arg 1; whnf); rw [gk]; conv => whnf) | ((first | refine wN ?_ | refine wNc ?_ | refine wA ?_ | refine wB ?_ | refine wC ?_ | refine wD ?_ | refine Called.mk _ _ (hc) ?_ | refine vA ?_ | refine vB ?_ | refine vC ?_ | refine vD ?_ | refine uA ?_ | refine uB ?_ | refine uC ?_ | refine uD ?_); conv => whnf) | ((first | apply Pick.dec | apply Pick.beq | apply Cond.dec | apply Cond.beq | apply Cond.nd | apply Pick.nd | apply Pick.mk | apply Cond.mk) <;> intro h <;> conv => whnf))
          rw [e1]
          apply hw [0] [true, true, false, true, false, false, true, false, false, false, false, false, false, false, false, false, false, false, false, false, true] _ _ rfl
          exact im
      apply hw [0] [true, true, false, true, false, false, true, false, false, false, false, false, false, false, false, false, false, false, false, false, true] _ _ rfl
      exact turn ar.length 0 out (by omega) hrF (by rw [List.drop_zero]; omega)
  by_cases k10 : k = 10 ∧ o ≠ 16
  · obtain ⟨rfl, o16⟩ := k10
    have hown : ownK l sec (.mk 10 o n s v sc p ar) = if (kidF l sec s).2 = true ∧ 0 ≤ idxR n 0 (itemsAt l (kidF l sec s).1) then some (numF l (kidF l sec s).1 (idxR n 0 (itemsAt l (kidF l sec s).1))).1 else none := by
      show (if (10 : Int) = 2 then _ else if (10 : Int) = 10 ∧ o ≠ 16 then _ else _) = _
      rw [if_neg (by decide), if_pos ⟨rfl, o16⟩]
      rfl
    rw [hown] at hrF ho
    clear hown hF
    by_cases hk : (kidF l sec s).2 = true
    · obtain ⟨xs, hxm, hxs⟩ := kidF_true hk
      have hit : itemsAt l (kidF l sec s).1 = xs.items := by unfold itemsAt; rw [hxs]; rfl
      have h0 : 0 ≤ (kidF l sec s).1 ∧ (kidF l sec s).1.toNat < l.length ∧ l[(kidF l sec s).1.toNat]? = some xs := by
        unfold seAt at hxs
        split at hxs
        · exact ⟨by assumption, (List.getElem?_eq_some_iff.1 hxs).1, hxs⟩
        · cases hxs
      have hxi := (hL.ok xs hxm).1
      have hnum := fun (i : Int) (h : i ≤ 9223372036854775807) => rNumber_ret l (kidF l sec s).1 i h hl64 hmany
      rw [hit, hk] at hrF ho
      rw [hk] at hKd
      have hput := fun q => put_ret out q (by omega)
      have hplen := fun q => putO_len q out
      have hlt : 0 ≤ idxR n 0 xs.items → idxR n 0 xs.items ≤ 9223372036854775807 := fun h => by
        rcases idxR_find n 0 xs.items with ⟨_, e⟩ | ⟨j, t, h1, _, e⟩
        · omega
        · have := (List.getElem?_eq_some_iff.1 h1).1
          omega
      have gs : getL cSe l (kidF l sec s).1.toNat = cSe xs := getL_at h0.2.2
      generalize kidF l sec s = kd at *
      obtain ⟨kd1, kd2⟩ := kd
      simp only at *
      refine ret_of_body atCalls tok mixed Try.func46 (by kernel_rfl) rfl (k := 123) (rs := [.tmp 8]) (by kernel_rfl) (by kernel_rfl) ?_
      (conv => whnf) <;> repeat' (first | ((conv => arg 1; whnf); rw [gs]; conv => whnf) | ((first | refine wN ?_ | refine wNc ?_ | refine wA ?_ | refine wB ?_ | refine wC ?_ | refine wD ?_ | refine Called.mk _ _ (hKd) ?_ | refine vA ?_ | refine vB ?_ | refine vC ?_ | refine vD ?_ | refine uA ?_ | refine uB ?_ | refine uC ?_ | refine uD ?_); conv => whnf) | ((first | apply Pick.dec | apply Pick.beq | apply Cond.dec | apply Cond.beq | apply Cond.nd | apply Pick.nd | apply Pick.mk | apply Cond.mk) <;> intro h <;> conv => whnf))
      intro J jw js
      have find : ∀ (e j : Nat), j + e = xs.items.length → idxR n 0 xs.items = idxR n j (xs.items.drop j) → J [eL 5 cSe l, .int .i64 sec, .und, eL 1 cI out, .und, .und, .ptr 0 0, .und, .und, .und, .und, .und, .und, .und, .int .i64 kd1, .und, .int .i64 (j : Int), .und, .und, .und, .und, .und, .und, .und, .und, .und, .und, .und, .und, .und, .und, .und, .und, .und, .und, .und, .und, .und, .und, .und, .und, .und, .und, .und, .und, .und, .und, .und, .und, .und, .und, .und, .und, .und, .und, .und, .und, .und, .und, .und, .und, .und, .und, .und, .und, .und, .und, .und, .und, .und, .und, .und, .und, .und, .und, .und, .und, .und, .und, .und, .und, .und, .und, .und, .und, .und, .und, .und, .und, .und, .und, .und, .und, .und, .und, .und, .und, .und, .und, .und, .und, .und, .und, .und, .und, .und, .und, .und, .und, .und, .und, .und, .und, .und, .und, .und, .und, .und, .und, .und, .und, .und, .und] [.cells [.int .i64 10, .int .i64 o, .str n, .str s, .int .i64 v.kind, .bool v.num.neg, .int .u64 (l0 v.num.n), .int .u64 (l1 v.num.n), .int .u64 (l2 v.num.n), .int .u64 (l3 v.num.n), .int .i64 v.num.scale, .bool v.flag, .str v.text, .int .i64 v.err, .int .i64 sc, .int .i64 p, .ext 17 ar.length (Xp.rows ar)]] := by
        intro e
        induction e with
        | zero =>
          intro j hj he
          rw [List.drop_of_length_le (by omega)] at he
          have he : idxR n 0 xs.items = -1 := he
          rw [if_neg (by rw [he]; omega)] at hrF ho
          have hrF : walkL (rdsF l sec) ar out = rF := hrF
          apply js
          (conv => whnf) <;> repeat' (first | ((conv => arg 1; whnf); rw [gs]; conv => whnf) | ((first | refine wN ?_ | refine wNc ?_ | refine wA ?_ | refine wB ?_ | refine wC ?_ | refine wD ?_ | refine vA ?_ | refine vB ?_ | refine vC ?_ | refine vD ?_ | refine uA ?_ | refine uB ?_ | refine uC ?_ | refine uD ?_); conv => whnf) | ((first | apply Pick.dec | apply Pick.beq | apply Cond.dec | apply Cond.beq | apply Cond.nd | apply Pick.nd | apply Pick.mk | apply Cond.mk) <;> intro h <;> conv => whnf))
          intro I hw hs
          have turn : ∀ (d i : Nat) (o1 : List Int), i + d = ar.length → walkL (rdsF l sec) (ar.drop i) o1 = rF → o1.length + cntL (ar.drop i) ≤ 1048576 → I [eL 5 cSe l, .int .i64 sec, .und, eL 1 cI o1, .und, .und, .ptr 0 0, .und, .und, .und, .und, .und, .und, .und, .und, .und, .und, .und, .und, .und, .int .i64 (i : Int), .und, .und, .und, .und, .und, .und, .und, .und, .und, .und, .und, .und, .und, .und, .und, .und, .und, .und, .und, .und, .und, .und, .und, .und, .und, .und, .und, .und, .und, .und, .und, .und, .und, .und, .und, .und, .und, .und, .und, .und, .und, .und, .und, .und, .und, .und, .und, .und, .und, .und, .und, .und, .und, .und, .und, .und, .und, .und, .und, .und, .und, .und, .und, .und, .und, .und, .und, .und, .und, .und, .und, .und, .und, .und, .und, .und, .und, .und, .und, .und, .und, .und, .und, .und, .und, .und, .und, .und, .und, .und, .und, .und, .und, .und, .und, .und, .und, .und, .und, .und, .und, .und] [.cells [.int .i64 10, .int .i64 o, .str n, .str s, .int .i64 v.kind, .bool v.num.neg, .int .u64 (l0 v.num.n), .int .u64 (l1 v.num.n), .int .u64 (l2 v.num.n), .int .u64 (l3 v.num.n), .int .i64 v.num.scale, .bool v.flag, .str v.text, .int .i64 v.err, .int .i64 sc, .int .i64 p, .ext 17 ar.length (Xp.rows ar)]] := by
            intro d
            induction d with
            | zero =>
              intro i o1 hi hf hb
              rw [List.drop_of_length_le (by omega), walkL_nil] at hf
              subst hf
              apply hs
              conv => whnf
              refine Cond.ff (decF (by omega)) ?_
              (conv => whnf) <;> repeat' (first | ((first | refine wN ?_ | refine wNc ?_ | refine wA ?_ | refine wB ?_ | refine wC ?_ | refine wD ?_ | refine vA ?_ | refine vB ?_ | refine vC ?_ | refine vD ?_ | refine uA ?_ | refine uB ?_ | refine uC ?_ | refine uD ?_); conv => whnf) | ((first | apply Pick.dec | apply Pick.beq | apply Cond.dec | apply Cond.beq | apply Cond.nd | apply Pick.nd | apply Pick.mk | apply Cond.mk) <;> intro h <;> conv => whnf))
              exact End.mk rfl rfl
            | succ d im =>
              intro i o1 hi hf hb
              have hil : i < ar.length := by omega
              have gk : Xp.rows ar (Int.toNat (i : Int)) = cE ar[i] := by rw [Int.toNat_natCast]; exact (Xp.rows_ext ar).2 i hil
              have e1 : IntKind.i64.wrap ((i : Int) + 1) = ((i + 1 : Nat) : Int) := by rw [wi64_id (by omega) (by omega)]; omega
              rw [List.drop_eq_getElem_cons hil] at hf hb
              rw [walkL_cons] at hf
              rw [cntL_cons] at hb
              have hc := ihy ar[i] (List.getElem_mem hil) o1 (by omega)
              have hl := readsO_len l sec ar[i] o1
              have im := im (i + 1) (readsO l sec ar[i] o1) (by omega) hf (by omega)
              generalize readsO l sec ar[i] o1 = o2 at *
              generalize ar[i] = y at *
              apply hs
              conv => whnf
              refine Cond.tt (decT (by omega)) ?_
              (conv => whnf) <;> repeat' (first | ((conv => arg 1; whnf); rw [gk]; conv => whnf) | ((first | refine wN ?_ | refine wNc ?_ | refine wA ?_ | refine wB ?_ | refine wC ?_ | refine wD ?_ | refine Called.mk _ _ (hc) ?_ | refine vA ?_ | refine vB ?_ | refine vC ?_ | refine vD ?_ | refine uA ?_ | refine uB ?_ | refine uC ?_ | refine uD ?_); conv => whnf) | ((first | apply Pick.dec | apply Pick.beq | apply Cond.dec | apply Cond.beq | apply Cond.nd | apply Pick.nd | apply Pick.mk | apply Cond.mk) <;> intro h <;> conv => whnf))
              rw [e1]
              apply hw [0] [true, true, false, true, false, false, true, false, false, false, false, false, false, false, false, false, false, false, false, false, true] _ _ rfl
              exact im
          apply hw [0] [true, true, false, true, false, false, true, false, false, false, false, false, false, false, false, false, false, false, false, false, true] _ _ rfl
          exact turn ar.length 0 out (by omega) hrF (by rw [List.drop_zero]; omega)
        | succ e ih2 =>
          intro j hj he
          have hjl : j < xs.items.length := by omega
          have gj : getL cIt xs.items (Int.toNat (j : Int)) = cIt xs.items[j] := by rw [Int.toNat_natCast]; exact getL_at (List.getElem?_eq_getElem hjl)
          have e1 : IntKind.i64.wrap ((j : Int) + 1) = ((j + 1 : Nat) : Int) := by rw [wi64_id (by omega) (by omega)]; omega
          rw [List.drop_eq_getElem_cons hjl] at he
          have ih2 := ih2 (j + 1) (by omega)
          have he : idxR n 0 xs.items = if xs.items[j].reads n then (j : Int) else idxR n (j + 1) (xs.items.drop (j + 1)) := he
          generalize xs.items[j] = it at *
          by_cases hr : it.reads n
          · rw [if_pos hr] at he
            obtain ⟨hr1, hr2⟩ := hr
            have hq : (it.name.toList == n.toList) = true := by rw [toList_eq]; exact decide_eq_true hr1
            rw [he, if_pos (by first | exact ⟨rfl, by omega⟩ | exact ⟨trivial, by omega⟩ | omega)] at hrF ho
            have hrF : walkL (rdsF l sec) ar (putO (numF l kd1 (j : Int)).1 out) = rF := hrF
            have hN := hnum (j : Int) (by omega)
            have hP := hput (numF l kd1 (j : Int)).1
            have hpl := hplen (numF l kd1 (j : Int)).1
            generalize numF l kd1 (j : Int) = q at *
            generalize putO q.1 out = o1 at *
            apply js
            (conv => whnf) <;> repeat' (first | ((conv => arg 1; whnf); rw [gs]; conv => whnf) | ((conv => arg 1; whnf); rw [gj]; conv => whnf) | (rw [hq]; conv => whnf) | ((first | refine wN ?_ | refine wNc ?_ | refine wA ?_ | refine wB ?_ | refine wC ?_ | refine wD ?_ | refine Called.mk _ _ (hN) ?_ | refine Called.mk _ _ (hP) ?_ | refine vA ?_ | refine vB ?_ | refine vC ?_ | refine vD ?_ | refine uA ?_ | refine uB ?_ | refine uC ?_ | refine uD ?_); conv => whnf) | ((first | apply Pick.dec | apply Pick.beq | apply Cond.dec | apply Cond.beq | apply Cond.nd | apply Pick.nd | apply Pick.mk | apply Cond.mk) <;> intro h <;> conv => whnf))
            all_goals
              intro I hw hs
              have turn : ∀ (d i : Nat) (o1 : List Int), i + d = ar.length → walkL (rdsF l sec) (ar.drop i) o1 = rF → o1.length + cntL (ar.drop i) ≤ 1048576 → I [eL 5 cSe l, .int .i64 sec, .und, eL 1 cI o1, .und, .und, .ptr 0 0, .und, .und, .und, .und, .und, .und, .und, .und, .und, .und, .und, .und, .und, .int .i64 (i : Int), .und, .und, .und, .und, .und, .und, .und, .und, .und, .und, .und, .und, .und, .und, .und, .und, .und, .und, .und, .und, .und, .und, .und, .und, .und, .und, .und, .und, .und, .und, .und, .und, .und, .und, .und, .und, .und, .und, .und, .und, .und, .und, .und, .und, .und, .und, .und, .und, .und, .und, .und, .und, .und, .und, .und, .und, .und, .und, .und, .und, .und, .und, .und, .und, .und, .und, .und, .und, .und, .und, .und, .und, .und, .und, .und, .und, .und, .und, .und, .und, .und, .und, .und, .und, .und, .und, .und, .und, .und, .und, .und, .und, .und, .und, .und, .und, .und, .und, .und, .und, .und, .und] [.cells [.int .i64 10, .int .i64 o, .str n, .str s, .int .i64 v.kind, .bool v.num.neg, .int .u64 (l0 v.num.n), .int .u64 (l1 v.num.n), .int .u64 (l2 v.num.n), .int .u64 (l3 v.num.n), .int .i64 v.num.scale, .bool v.flag, .str v.text, .int .i64 v.err, .int .i64 sc, .int .i64 p, .ext 17 ar.length (Xp.rows ar)]] := by
                intro d
                induction d with
                | zero =>
                  intro i o1 hi hf hb
                  rw [List.drop_of_length_le (by omega), walkL_nil] at hf
                  subst hf
                  apply hs
                  conv => whnf
                  refine Cond.ff (decF (by omega)) ?_
                  (conv => whnf) <;> repeat' (first | ((first | refine wN ?_ | refine wNc ?_ | refine wA ?_ | refine wB ?_ | refine wC ?_ | refine wD ?_ | refine vA ?_ | refine vB ?_ | refine vC ?_ | refine vD ?_ | refine uA ?_ | refine uB ?_ | refine uC ?_ | refine uD ?_); conv => whnf) | ((first | apply Pick.dec | apply Pick.beq | apply Cond.dec | apply Cond.beq | apply Cond.nd | apply Pick.nd | apply Pick.mk | apply Cond.mk) <;> intro h <;> conv => whnf))
                  exact End.mk rfl rfl
                | succ d im =>
                  intro i o1 hi hf hb
                  have hil : i < ar.length := by omega
                  have gk : Xp.rows ar (Int.toNat (i : Int)) = cE ar[i] := by rw [Int.toNat_natCast]; exact (Xp.rows_ext ar).2 i hil
                  have e1 : IntKind.i64.wrap ((i : Int) + 1) = ((i + 1 : Nat) : Int) := by rw [wi64_id (by omega) (by omega)]; omega
                  rw [List.drop_eq_getElem_cons hil] at hf hb
                  rw [walkL_cons] at hf
                  rw [cntL_cons] at hb
                  have hc := ihy ar[i] (List.getElem_mem hil) o1 (by omega)
                  have hl := readsO_len l sec ar[i] o1
                  have im := im (i + 1) (readsO l sec ar[i] o1) (by omega) hf (by omega)
                  generalize readsO l sec ar[i] o1 = o2 at *
                  generalize ar[i] = y at *
                  apply hs
                  conv => whnf
                  refine Cond.tt (decT (by omega)) ?_
                  (conv => whnf) <;> repeat' (first | ((conv => arg 1; whnf); rw [gk]; conv => whnf) | ((first | refine wN ?_ | refine wNc ?_ | refine wA ?_ | refine wB ?_ | refine wC ?_ | refine wD ?_ | refine Called.mk _ _ (hc) ?_ | refine vA ?_ | refine vB ?_ | refine vC ?_ | refine vD ?_ | refine uA ?_ | refine uB ?_ | refine uC ?_ | refine uD ?_); conv => whnf) | ((first | apply Pick.dec | apply Pick.beq | apply Cond.dec | apply Cond.beq | apply Cond.nd | apply Pick.nd | apply Pick.mk | apply Cond.mk) <;> intro h <;> conv => whnf))
                  rw [e1]
                  apply hw [0] [true, true, false, true, false, false, true, false, false, false, false, false, false, false, false, false, false, false, false, false, true] _ _ rfl
                  exact im
              apply hw [0] [true, true, false, true, false, false, true, false, false, false, false, false, false, false, false, false, false, false, false, false, true] _ _ rfl
              exact turn ar.length 0 o1 (by omega) hrF (by rw [List.drop_zero]; omega)
          · rw [if_neg hr] at he
            apply js
            by_cases hr1 : it.name = n
            · have hq : (it.name.toList == n.toList) = true := by rw [toList_eq]; exact decide_eq_true hr1
              have hr2 : ¬ (it.kind = 1 ∨ it.kind = 2) := fun h => hr ⟨hr1, h⟩
              (conv => whnf) <;> repeat' (first | ((conv => arg 1; whnf); rw [gs]; conv => whnf) | ((conv => arg 1; whnf); rw [gj]; conv => whnf) | (rw [hq]; conv => whnf) | ((first | refine wN ?_ | refine wNc ?_ | refine wA ?_ | refine wB ?_ | refine wC ?_ | refine wD ?_ | refine vA ?_ | refine vB ?_ | refine vC ?_ | refine vD ?_ | refine uA ?_ | refine uB ?_ | refine uC ?_ | refine uD ?_); conv => whnf) | ((first | apply Pick.dec | apply Pick.beq | apply Cond.dec | apply Cond.beq | apply Cond.nd | apply Pick.nd | apply Pick.mk | apply Cond.mk) <;> intro h <;> conv => whnf))
              rw [e1]
              apply jw [0] [true, true, false, true, false, false, true, false, false, false, false, false, false, false, true, false, true] _ _ rfl
              exact ih2 he
            · have hq : (it.name.toList == n.toList) = false := by rw [toList_eq]; exact decide_eq_false hr1
              (conv => whnf) <;> repeat' (first | ((conv => arg 1; whnf); rw [gs]; conv => whnf) | ((conv => arg 1; whnf); rw [gj]; conv => whnf) | (rw [hq]; conv => whnf) | ((first | refine wN ?_ | refine wNc ?_ | refine wA ?_ | refine wB ?_ | refine wC ?_ | refine wD ?_ | refine vA ?_ | refine vB ?_ | refine vC ?_ | refine vD ?_ | refine uA ?_ | refine uB ?_ | refine uC ?_ | refine uD ?_); conv => whnf) | ((first | apply Pick.dec | apply Pick.beq | apply Cond.dec | apply Cond.beq | apply Cond.nd | apply Pick.nd | apply Pick.mk | apply Cond.mk) <;> intro h <;> conv => whnf))
              rw [e1]
              apply jw [0] [true, true, false, true, false, false, true, false, false, false, false, false, false, false, true, false, true] _ _ rfl
              exact ih2 he
      apply jw [0] [true, true, false, true, false, false, true, false, false, false, false, false, false, false, true, false, true] _ _ rfl
      exact find xs.items.length 0 (by omega) rfl
    · rw [if_neg (fun h => hk h.1)] at hrF ho
      have hk' : (kidF l sec s).2 = false := by simpa using hk
      rw [hk'] at hKd
      have hrF : walkL (rdsF l sec) ar out = rF := hrF
      generalize kidF l sec s = kd at *
      refine ret_of_body atCalls tok mixed Try.func46 (by kernel_rfl) rfl (k := 123) (rs := [.tmp 8]) (by kernel_rfl) (by kernel_rfl) ?_
      (conv => whnf) <;> repeat' (first | ((first | refine wN ?_ | refine wNc ?_ | refine wA ?_ | refine wB ?_ | refine wC ?_ | refine wD ?_ | refine Called.mk _ _ (hKd) ?_ | refine vA ?_ | refine vB ?_ | refine vC ?_ | refine vD ?_ | refine uA ?_ | refine uB ?_ | refine uC ?_ | refine uD ?_); conv => whnf) | ((first | apply Pick.dec | apply Pick.beq | apply Cond.dec | apply Cond.beq | apply Cond.nd | apply Pick.nd | apply Pick.mk | apply Cond.mk) <;> intro h <;> conv => whnf))
      intro I hw hs
      have turn : ∀ (d i : Nat) (o1 : List Int), i + d = ar.length → walkL (rdsF l sec) (ar.drop i) o1 = rF → o1.length + cntL (ar.drop i) ≤ 1048576 → I [eL 5 cSe l, .int .i64 sec, .und, eL 1 cI o1, .und, .und, .ptr 0 0, .und, .und, .und, .und, .und, .und, .und, .und, .und, .und, .und, .und, .und, .int .i64 (i : Int), .und, .und, .und, .und, .und, .und, .und, .und, .und, .und, .und, .und, .und, .und, .und, .und, .und, .und, .und, .und, .und, .und, .und, .und, .und, .und, .und, .und, .und, .und, .und, .und, .und, .und, .und, .und, .und, .und, .und, .und, .und, .und, .und, .und, .und, .und, .und, .und, .und, .und, .und, .und, .und, .und, .und, .und, .und, .und, .und, .und, .und, .und, .und, .und, .und, .und, .und, .und, .und, .und, .und, .und, .und, .und, .und, .und, .und, .und, .und, .und, .und, .und, .und, .und, .und, .und, .und, .und, .und, .und, .und, .und, .und, .und, .und, .und, .und, .und, .und, .und, .und, .und] [.cells [.int .i64 10, .int .i64 o, .str n, .str s, .int .i64 v.kind, .bool v.num.neg, .int .u64 (l0 v.num.n), .int .u64 (l1 v.num.n), .int .u64 (l2 v.num.n), .int .u64 (l3 v.num.n), .int .i64 v.num.scale, .bool v.flag, .str v.text, .int .i64 v.err, .int .i64 sc, .int .i64 p, .ext 17 ar.length (Xp.rows ar)]] := by
        intro d
        induction d with
        | zero =>
          intro i o1 hi hf hb
          rw [List.drop_of_length_le (by omega), walkL_nil] at hf
          subst hf
          apply hs
          conv => whnf
          refine Cond.ff (decF (by omega)) ?_
          (conv => whnf) <;> repeat' (first | ((first | refine wN ?_ | refine wNc ?_ | refine wA ?_ | refine wB ?_ | refine wC ?_ | refine wD ?_ | refine vA ?_ | refine vB ?_ | refine vC ?_ | refine vD ?_ | refine uA ?_ | refine uB ?_ | refine uC ?_ | refine uD ?_); conv => whnf) | ((first | apply Pick.dec | apply Pick.beq | apply Cond.dec | apply Cond.beq | apply Cond.nd | apply Pick.nd | apply Pick.mk | apply Cond.mk) <;> intro h <;> conv => whnf))
          exact End.mk rfl rfl
        | succ d im =>
          intro i o1 hi hf hb
          have hil : i < ar.length := by omega
          have gk : Xp.rows ar (Int.toNat (i : Int)) = cE ar[i] := by rw [Int.toNat_natCast]; exact (Xp.rows_ext ar).2 i hil
          have e1 : IntKind.i64.wrap ((i : Int) + 1) = ((i + 1 : Nat) : Int) := by rw [wi64_id (by omega) (by omega)]; omega
          rw [List.drop_eq_getElem_cons hil] at hf hb
          rw [walkL_cons] at hf
          rw [cntL_cons] at hb
          have hc := ihy ar[i] (List.getElem_mem hil) o1 (by omega)
          have hl := readsO_len l sec ar[i] o1
          have im := im (i + 1) (readsO l sec ar[i] o1) (by omega) hf (by omega)
          generalize readsO l sec ar[i] o1 = o2 at *
          generalize ar[i] = y at *
          apply hs
          conv => whnf
          refine Cond.tt (decT (by omega)) ?_
          (conv => whnf) <;> repeat' (first | ((conv => arg 1; whnf); rw [gk]; conv => whnf) | ((first | refine wN ?_ | refine wNc ?_ | refine wA ?_ | refine wB ?_ | refine wC ?_ | refine wD ?_ | refine Called.mk _ _ (hc) ?_ | refine vA ?_ | refine vB ?_ | refine vC ?_ | refine vD ?_ | refine uA ?_ | refine uB ?_ | refine uC ?_ | refine uD ?_); conv => whnf) | ((first | apply Pick.dec | apply Pick.beq | apply Cond.dec | apply Cond.beq | apply Cond.nd | apply Pick.nd | apply Pick.mk | apply Cond.mk) <;> intro h <;> conv => whnf))
          rw [e1]
          apply hw [0] [true, true, false, true, false, false, true, false, false, false, false, false, false, false, false, false, false, false, false, false, true] _ _ rfl
          exact im
      apply hw [0] [true, true, false, true, false, false, true, false, false, false, false, false, false, false, false, false, false, false, false, false, true] _ _ rfl
      exact turn ar.length 0 out (by omega) hrF (by rw [List.drop_zero]; omega)
  · have hown : ownK l sec (.mk k o n s v sc p ar) = none := by
      show (if k = 2 then _ else if k = 10 ∧ o ≠ 16 then _ else _) = _
      rw [if_neg k2, if_neg k10]
    rw [hown] at hrF ho
    have hrF : walkL (rdsF l sec) ar out = rF := hrF
    clear hF hKd
    by_cases k10' : k = 10
    · have ho16 : o = 16 := Classical.byContradiction fun h => k10 ⟨k10', h⟩
      refine ret_of_body atCalls tok mixed Try.func46 (by kernel_rfl) rfl (k := 123) (rs := [.tmp 8]) (by kernel_rfl) (by kernel_rfl) ?_
      (conv => whnf) <;> repeat' (first | ((first | refine wN ?_ | refine wNc ?_ | refine wA ?_ | refine wB ?_ | refine wC ?_ | refine wD ?_ | refine vA ?_ | refine vB ?_ | refine vC ?_ | refine vD ?_ | refine uA ?_ | refine uB ?_ | refine uC ?_ | refine uD ?_); conv => whnf) | ((first | apply Pick.dec | apply Pick.beq | apply Cond.dec | apply Cond.beq | apply Cond.nd | apply Pick.nd | apply Pick.mk | apply Cond.mk) <;> intro h <;> conv => whnf))
      intro I hw hs
      have turn : ∀ (d i : Nat) (o1 : List Int), i + d = ar.length → walkL (rdsF l sec) (ar.drop i) o1 = rF → o1.length + cntL (ar.drop i) ≤ 1048576 → I [eL 5 cSe l, .int .i64 sec, .und, eL 1 cI o1, .und, .und, .ptr 0 0, .und, .und, .und, .und, .und, .und, .und, .und, .und, .und, .und, .und, .und, .int .i64 (i : Int), .und, .und, .und, .und, .und, .und, .und, .und, .und, .und, .und, .und, .und, .und, .und, .und, .und, .und, .und, .und, .und, .und, .und, .und, .und, .und, .und, .und, .und, .und, .und, .und, .und, .und, .und, .und, .und, .und, .und, .und, .und, .und, .und, .und, .und, .und, .und, .und, .und, .und, .und, .und, .und, .und, .und, .und, .und, .und, .und, .und, .und, .und, .und, .und, .und, .und, .und, .und, .und, .und, .und, .und, .und, .und, .und, .und, .und, .und, .und, .und, .und, .und, .und, .und, .und, .und, .und, .und, .und, .und, .und, .und, .und, .und, .und, .und, .und, .und, .und, .und, .und, .und] [.cells [.int .i64 k, .int .i64 o, .str n, .str s, .int .i64 v.kind, .bool v.num.neg, .int .u64 (l0 v.num.n), .int .u64 (l1 v.num.n), .int .u64 (l2 v.num.n), .int .u64 (l3 v.num.n), .int .i64 v.num.scale, .bool v.flag, .str v.text, .int .i64 v.err, .int .i64 sc, .int .i64 p, .ext 17 ar.length (Xp.rows ar)]] := by
        intro d
        induction d with
        | zero =>
          intro i o1 hi hf hb
          rw [List.drop_of_length_le (by omega), walkL_nil] at hf
          subst hf
          apply hs
          conv => whnf
          refine Cond.ff (decF (by omega)) ?_
          (conv => whnf) <;> repeat' (first | ((first | refine wN ?_ | refine wNc ?_ | refine wA ?_ | refine wB ?_ | refine wC ?_ | refine wD ?_ | refine vA ?_ | refine vB ?_ | refine vC ?_ | refine vD ?_ | refine uA ?_ | refine uB ?_ | refine uC ?_ | refine uD ?_); conv => whnf) | ((first | apply Pick.dec | apply Pick.beq | apply Cond.dec | apply Cond.beq | apply Cond.nd | apply Pick.nd | apply Pick.mk | apply Cond.mk) <;> intro h <;> conv => whnf))
          exact End.mk rfl rfl
        | succ d im =>
          intro i o1 hi hf hb
          have hil : i < ar.length := by omega
          have gk : Xp.rows ar (Int.toNat (i : Int)) = cE ar[i] := by rw [Int.toNat_natCast]; exact (Xp.rows_ext ar).2 i hil
          have e1 : IntKind.i64.wrap ((i : Int) + 1) = ((i + 1 : Nat) : Int) := by rw [wi64_id (by omega) (by omega)]; omega
          rw [List.drop_eq_getElem_cons hil] at hf hb
          rw [walkL_cons] at hf
          rw [cntL_cons] at hb
          have hc := ihy ar[i] (List.getElem_mem hil) o1 (by omega)
          have hl := readsO_len l sec ar[i] o1
          have im := im (i + 1) (readsO l sec ar[i] o1) (by omega) hf (by omega)
          generalize readsO l sec ar[i] o1 = o2 at *
          generalize ar[i] = y at *
          apply hs
          conv => whnf
          refine Cond.tt (decT (by omega)) ?_
          (conv => whnf) <;> repeat' (first | ((conv => arg 1; whnf); rw [gk]; conv => whnf) | ((first | refine wN ?_ | refine wNc ?_ | refine wA ?_ | refine wB ?_ | refine wC ?_ | refine wD ?_ | refine Called.mk _ _ (hc) ?_ | refine vA ?_ | refine vB ?_ | refine vC ?_ | refine vD ?_ | refine uA ?_ | refine uB ?_ | refine uC ?_ | refine uD ?_); conv => whnf) | ((first | apply Pick.dec | apply Pick.beq | apply Cond.dec | apply Cond.beq | apply Cond.nd | apply Pick.nd | apply Pick.mk | apply Cond.mk) <;> intro h <;> conv => whnf))
          rw [e1]
          apply hw [0] [true, true, false, true, false, false, true, false, false, false, false, false, false, false, false, false, false, false, false, false, true] _ _ rfl
          exact im
      apply hw [0] [true, true, false, true, false, false, true, false, false, false, false, false, false, false, false, false, false, false, false, false, true] _ _ rfl
      exact turn ar.length 0 out (by omega) hrF (by rw [List.drop_zero]; omega)
    · refine ret_of_body atCalls tok mixed Try.func46 (by kernel_rfl) rfl (k := 123) (rs := [.tmp 8]) (by kernel_rfl) (by kernel_rfl) ?_
      (conv => whnf) <;> repeat' (first | ((first | refine wN ?_ | refine wNc ?_ | refine wA ?_ | refine wB ?_ | refine wC ?_ | refine wD ?_ | refine vA ?_ | refine vB ?_ | refine vC ?_ | refine vD ?_ | refine uA ?_ | refine uB ?_ | refine uC ?_ | refine uD ?_); conv => whnf) | ((first | apply Pick.dec | apply Pick.beq | apply Cond.dec | apply Cond.beq | apply Cond.nd | apply Pick.nd | apply Pick.mk | apply Cond.mk) <;> intro h <;> conv => whnf))
      intro I hw hs
      have turn : ∀ (d i : Nat) (o1 : List Int), i + d = ar.length → walkL (rdsF l sec) (ar.drop i) o1 = rF → o1.length + cntL (ar.drop i) ≤ 1048576 → I [eL 5 cSe l, .int .i64 sec, .und, eL 1 cI o1, .und, .und, .ptr 0 0, .und, .und, .und, .und, .und, .und, .und, .und, .und, .und, .und, .und, .und, .int .i64 (i : Int), .und, .und, .und, .und, .und, .und, .und, .und, .und, .und, .und, .und, .und, .und, .und, .und, .und, .und, .und, .und, .und, .und, .und, .und, .und, .und, .und, .und, .und, .und, .und, .und, .und, .und, .und, .und, .und, .und, .und, .und, .und, .und, .und, .und, .und, .und, .und, .und, .und, .und, .und, .und, .und, .und, .und, .und, .und, .und, .und, .und, .und, .und, .und, .und, .und, .und, .und, .und, .und, .und, .und, .und, .und, .und, .und, .und, .und, .und, .und, .und, .und, .und, .und, .und, .und, .und, .und, .und, .und, .und, .und, .und, .und, .und, .und, .und, .und, .und, .und, .und, .und, .und] [.cells [.int .i64 k, .int .i64 o, .str n, .str s, .int .i64 v.kind, .bool v.num.neg, .int .u64 (l0 v.num.n), .int .u64 (l1 v.num.n), .int .u64 (l2 v.num.n), .int .u64 (l3 v.num.n), .int .i64 v.num.scale, .bool v.flag, .str v.text, .int .i64 v.err, .int .i64 sc, .int .i64 p, .ext 17 ar.length (Xp.rows ar)]] := by
        intro d
        induction d with
        | zero =>
          intro i o1 hi hf hb
          rw [List.drop_of_length_le (by omega), walkL_nil] at hf
          subst hf
          apply hs
          conv => whnf
          refine Cond.ff (decF (by omega)) ?_
          (conv => whnf) <;> repeat' (first | ((first | refine wN ?_ | refine wNc ?_ | refine wA ?_ | refine wB ?_ | refine wC ?_ | refine wD ?_ | refine vA ?_ | refine vB ?_ | refine vC ?_ | refine vD ?_ | refine uA ?_ | refine uB ?_ | refine uC ?_ | refine uD ?_); conv => whnf) | ((first | apply Pick.dec | apply Pick.beq | apply Cond.dec | apply Cond.beq | apply Cond.nd | apply Pick.nd | apply Pick.mk | apply Cond.mk) <;> intro h <;> conv => whnf))
          exact End.mk rfl rfl
        | succ d im =>
          intro i o1 hi hf hb
          have hil : i < ar.length := by omega
          have gk : Xp.rows ar (Int.toNat (i : Int)) = cE ar[i] := by rw [Int.toNat_natCast]; exact (Xp.rows_ext ar).2 i hil
          have e1 : IntKind.i64.wrap ((i : Int) + 1) = ((i + 1 : Nat) : Int) := by rw [wi64_id (by omega) (by omega)]; omega
          rw [List.drop_eq_getElem_cons hil] at hf hb
          rw [walkL_cons] at hf
          rw [cntL_cons] at hb
          have hc := ihy ar[i] (List.getElem_mem hil) o1 (by omega)
          have hl := readsO_len l sec ar[i] o1
          have im := im (i + 1) (readsO l sec ar[i] o1) (by omega) hf (by omega)
          generalize readsO l sec ar[i] o1 = o2 at *
          generalize ar[i] = y at *
          apply hs
          conv => whnf
          refine Cond.tt (decT (by omega)) ?_
          (conv => whnf) <;> repeat' (first | ((conv => arg 1; whnf); rw [gk]; conv => whnf) | ((first | refine wN ?_ | refine wNc ?_ | refine wA ?_ | refine wB ?_ | refine wC ?_ | refine wD ?_ | refine Called.mk _ _ (hc) ?_ | refine vA ?_ | refine vB ?_ | refine vC ?_ | refine vD ?_ | refine uA ?_ | refine uB ?_ | refine uC ?_ | refine uD ?_); conv => whnf) | ((first | apply Pick.dec | apply Pick.beq | apply Cond.dec | apply Cond.beq | apply Cond.nd | apply Pick.nd | apply Pick.mk | apply Cond.mk) <;> intro h <;> conv => whnf))
          rw [e1]
          apply hw [0] [true, true, false, true, false, false, true, false, false, false, false, false, false, false, false, false, false, false, false, false, true] _ _ rfl
          exact im
      apply hw [0] [true, true, false, true, false, false, true, false, false, false, false, false, false, false, false, false, false, false, false, false, true] _ _ rfl
      exact turn ar.length 0 out (by omega) hrF (by rw [List.drop_zero]; omega)
theorem itemAt_of {l : List Se} {s i : Int} {x : Se} {it : It} (h : seAt l s = some x) (hi : x.items[i.toNat]? = some it) : itemAt l s i = it := by
  unfold itemAt
  rw [h]
  show (x.items[i.toNat]?).getD It0 = it
  rw [hi]; rfl
theorem ofF_true {l : List Se} {n : Int} (h : (ofF l n).2.2 = true) : ∃ x it, seAt l (ofF l n).1 = some x ∧ x ∈ l ∧ 0 ≤ (ofF l n).1 ∧ (ofF l n).1.toNat < l.length ∧ l[(ofF l n).1.toNat]? = some x ∧ 0 ≤ (ofF l n).2.1 ∧ (ofF l n).2.1.toNat < x.items.length ∧ x.items[(ofF l n).2.1.toNat]? = some it ∧ itemAt l (ofF l n).1 (ofF l n).2.1 = it := by
  unfold ofF at h ⊢
  split at h
  · cases h
  · rename_i hn
    rw [if_neg hn]
    obtain ⟨j, x, h1, h2, h3, h4, h5⟩ := ofN_true (by omega) h
    have hj := (List.getElem?_eq_some_iff.1 h1).1
    generalize ofN 0 l n = r at *
    obtain ⟨r1, r2, r3⟩ := r
    simp only at *
    have e : r1 = (j : Int) := by rw [h2]; omega
    subst e
    have h6 : seAt l (j : Int) = some x := by unfold seAt; rw [if_pos (by omega), Int.toNat_natCast]; exact h1
    have h7 : x.items[r2.toNat]? = some x.items[r2.toNat] := List.getElem?_eq_getElem (by omega)
    exact ⟨x, x.items[r2.toNat], h6, List.mem_of_getElem? h1, by omega, by omega, by rw [Int.toNat_natCast]; exact h1, h3, by omega, h7, itemAt_of h6 h7⟩
theorem rReads_ret (l : List Se) (hL : LOk l) (n : Int) (hn : n ≤ 9223372036854775807) : Ret Try.prog 24 [eL 5 cSe l, .int .i64 n] [] (eL 1 cI (readsF l n)) [] := by
  have hO := rOf_ret l n hn hL.len hL.many
  have hl64 := hL.len
  by_cases h : (ofF l n).2.2 = true
  · obtain ⟨x, it, h1, h2, h3, h4, h5, h6, h7, h8, h9⟩ := ofF_true h
    have hix := (hL.ok x h2).2 it (List.mem_of_getElem? h8)
    have hcx := hL.cnt x h2 it (List.mem_of_getElem? h8)
    have hxi := (hL.ok x h2).1
    have hR := rreads_ret l hL (ofF l n).1 it.expr hix.wf [] (by simp; omega)
    rw [reads_eq] at hR
    have g1 : getL cSe l (ofF l n).1.toNat = cSe x := getL_at h5
    have g2 : getL cIt x.items (ofF l n).2.1.toNat = cIt it := getL_at h8
    have hm : maxLen ≤ 9223372036854775807 := by decide
    unfold readsF
    rw [h9]
    rw [h] at hO
    by_cases hk : it.kind = 1
    · rw [if_neg (fun hh => hh.2 hk)]
      generalize ofF l n = r at *
      have hg : Ret Try.prog 24 [eL 5 cSe l, .int .i64 n] [] .nils [] := by
        refine ret_of_body atCalls tok mixed Try.func24 (by kernel_rfl) rfl (k := 41) (rs := [.tmp 4]) (by kernel_rfl) (by kernel_rfl) ?_
        (conv => whnf) <;> repeat' (first | ((conv => arg 1; whnf); rw [g1]; conv => whnf) | ((conv => arg 1; whnf); rw [g2]; conv => whnf) | ((first | refine wN ?_ | refine wNc ?_ | refine wA ?_ | refine wB ?_ | refine wC ?_ | refine wD ?_ | refine Called.mk _ _ (hO) ?_ | refine vA ?_ | refine vB ?_ | refine vC ?_ | refine vD ?_ | refine uA ?_ | refine uB ?_ | refine uC ?_ | refine uD ?_); conv => whnf) | ((first | apply Pick.dec | apply Pick.beq | apply Cond.dec | apply Cond.beq | apply Cond.nd | apply Pick.nd | apply Pick.mk | apply Cond.mk) <;> intro h <;> conv => whnf))
        exact End.mk rfl rfl
      exact hg.leR le_nils
    · rw [if_pos ⟨h, hk⟩]
      generalize sortZ (keysZ (readsW l (ofF l n).1 it.expr [])) = out at *
      generalize ofF l n = r at *
      have hR : Ret Try.prog 46 [eL 5 cSe l, .int .i64 r.1, eE it.expr, .nils] [] (eL 1 cI out) [] := hR.le (.cons (.refl _) (.cons (.refl _) (.cons (.refl _) (.cons le_nils .nil))))
      refine ret_of_body atCalls tok mixed Try.func24 (by kernel_rfl) rfl (k := 41) (rs := [.tmp 4]) (by kernel_rfl) (by kernel_rfl) ?_
      (conv => whnf) <;> repeat' (first | ((conv => arg 1; whnf); rw [g1]; conv => whnf) | ((conv => arg 1; whnf); rw [g2]; conv => whnf) | ((first | refine wN ?_ | refine wNc ?_ | refine wA ?_ | refine wB ?_ | refine wC ?_ | refine wD ?_ | refine Called.mk _ _ (hO) ?_ | refine Called.mk _ _ (hR) ?_ | refine vA ?_ | refine vB ?_ | refine vC ?_ | refine vD ?_ | refine uA ?_ | refine uB ?_ | refine uC ?_ | refine uD ?_); conv => whnf) | ((first | apply Pick.dec | apply Pick.beq | apply Cond.dec | apply Cond.beq | apply Cond.nd | apply Pick.nd | apply Pick.mk | apply Cond.mk) <;> intro h <;> conv => whnf))
      exact End.mk rfl rfl
  · have h' : (ofF l n).2.2 = false := by simpa using h
    have e : readsF l n = [] := if_neg fun hh => h hh.1
    rw [e]
    rw [h'] at hO
    generalize ofF l n = r at *
    have hg : Ret Try.prog 24 [eL 5 cSe l, .int .i64 n] [] .nils [] := by
      refine ret_of_body atCalls tok mixed Try.func24 (by kernel_rfl) rfl (k := 41) (rs := [.tmp 4]) (by kernel_rfl) (by kernel_rfl) ?_
      (conv => whnf) <;> repeat' (first | ((first | refine wN ?_ | refine wNc ?_ | refine wA ?_ | refine wB ?_ | refine wC ?_ | refine wD ?_ | refine Called.mk _ _ (hO) ?_ | refine vA ?_ | refine vB ?_ | refine vC ?_ | refine vD ?_ | refine uA ?_ | refine uB ?_ | refine uC ?_ | refine uD ?_); conv => whnf) | ((first | apply Pick.dec | apply Pick.beq | apply Cond.dec | apply Cond.beq | apply Cond.nd | apply Pick.nd | apply Pick.mk | apply Cond.mk) <;> intro h <;> conv => whnf))
      exact End.mk rfl rfl
    exact hg.leR le_nils
end Go.Proofs.Ythjgnmpnagmeoaa

