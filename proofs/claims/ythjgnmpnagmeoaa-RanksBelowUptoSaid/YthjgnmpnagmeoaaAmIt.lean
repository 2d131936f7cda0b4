/- exciseref11.Below. -/
import Derived.Test.YthjgnmpnagmeoaaAmIs
import Derived.Test.YthjgnmpnagmeoaaAmIl
import Derived.Test.YthjgnmpnagmeoaaAmIo
import Derived.Test.YthjgnmpnagmeoaaAmIk
set_option linter.unusedVariables false
set_option linter.unusedSimpArgs false
set_option maxRecDepth 100000
namespace Go.Proofs.Ythjgnmpnagmeoaa
open Go.AM
theorem toNat_nn (n : Nat) : Int.toNat (n : Int) = n := Int.toNat_natCast n
set_option maxHeartbeats 8000000 in
theorem rbelow_go (l : List Se) (gr : List (List Int)) (n : Int) (hn : 0 ≤ n ∧ n < (gr.length : Int)) (hG : Ret Try.prog 48 [eL 5 cSe l] [] (eL 1 cRow gr) []) (hM : gr.length ≤ 1048576) (hrl : ∀ r ∈ gr, r.length ≤ 1048576) (hin : ∀ r ∈ gr, ∀ j ∈ r, 0 ≤ j ∧ j < (gr.length : Int))
    (full : List Int) (hfull : full = belowF gr n) (vt : Val) (ht : List Blk) (h0 : full = [] → vt = .nils ∧ ht = []) (h1 : full ≠ [] → vt = .row 0 full.length ∧ ht = [.row 3 1 full.length (getL cI full) 0]) :
    Ret Try.prog 28 [eL 5 cSe l, .int .i64 n] [] vt ht := by
  have hz := gB_zero gr.length
  have hc0 : ((gr.length : Nat) : Int).toNat = gr.length := Int.toNat_natCast _
  obtain ⟨hn0, hn1⟩ := hn
  refine ret_of_body atNone tok mixed Try.func28 (by kernel_rfl) rfl (k := 87) (rs := [.tmp 4]) (by kernel_rfl) (by kernel_rfl) ?_
  (conv => whnf) <;> repeat' (first | (rw [hz]; conv => whnf) | (rw [hc0]; conv => whnf) | ((first | refine wN ?_ | refine wNc ?_ | refine wA ?_ | refine wB ?_ | refine wC ?_ | refine wD ?_ | refine Called.mk _ _ (hG) ?_ | refine vA ?_ | refine vB ?_ | refine vC ?_ | refine vD ?_ | refine uA ?_ | refine uB ?_ | refine uC ?_ | refine uD ?_); conv => whnf) | ((first | apply Pick.dec | apply Pick.beq | apply Cond.dec | apply Cond.beq | apply Cond.nd | apply Pick.nd | apply Pick.mk | apply Cond.mk) <;> intro h <;> conv => whnf))
  intro J jw js
  -- the end: the list is read off
  have done : ∀ (B : List Bool), BOk gr n B → (∀ k, k < gr.length → closedAt gr n B k) →
      J [.und, .int .i64 n, .und, .und, .und, eL 1 cRow gr, .row 0 gr.length, .bool false, .und, .und, .und, .und, .und, .und, .und, .und, .und, .und, .und, .und, .und, .und, .und, .und, .und, .und, .und, .und, .und, .und, .und, .und, .und, .und, .und, .und, .und, .und, .und, .und, .und, .und, .und, .und, .und, .und, .und, .und, .und, .und, .und, .und, .und, .und, .und, .und, .und, .und, .und, .und, .und, .und, .und, .und, .und, .und, .und, .und, .und, .und, .und, .und, .und, .und, .und, .und, .und, .und, .und, .und, .und, .und, .und, .und, .und, .und, .und] [.row 4 1 gr.length (gB B) 0] := by
    intro B hB hcl
    have hf : full = cmpZ (fun (k : Nat) => B.getD k false) (fun (k : Nat) => (k : Int)) gr.length 0 := by
      have e : (fun (k : Nat) => B.getD k false) = fun (k : Nat) => (fun (k : Int) => B.getD k.toNat false) (k : Int) := rfl
      rw [e, cmpZ_filter (fun k : Int => B.getD k.toNat false), hfull]
      unfold belowF
      rw [if_pos ⟨hn0, hn1⟩]
      unfold zeroTo
      rw [List.range_eq_range']
      refine List.filter_congr fun k hk => ?_
      obtain ⟨i, hi, rfl⟩ := List.mem_map.1 hk
      have hi := List.mem_range'.1 hi
      have hig : i < gr.length := by omega
      rw [Int.toNat_natCast]
      cases hb : B.getD i false with
      | true => exact @decide_eq_true _ (Classical.propDecidable _) (hB.snd i hig hb)
      | false =>
        refine @decide_eq_false _ (Classical.propDecidable _) fun h => ?_
        have := hB.exact_ hcl h
        rw [Int.toNat_natCast, hb] at this
        cases this
    apply js
    conv => whnf
    refine Cond.ff rfl ?_
    (conv => whnf) <;> repeat' (first | ((first | refine wN ?_ | refine wNc ?_ | refine wA ?_ | refine wB ?_ | refine wC ?_ | refine wD ?_ | refine vA ?_ | refine vB ?_ | refine vC ?_ | refine vD ?_ | refine uA ?_ | refine uB ?_ | refine uC ?_ | refine uD ?_); conv => whnf) | ((first | apply Pick.dec | apply Pick.beq | apply Cond.dec | apply Cond.beq | apply Cond.nd | apply Pick.nd | apply Pick.mk | apply Cond.mk) <;> intro h <;> conv => whnf))
    intro G gw gs
    clear jw js
    have turn : ∀ (d k : Nat) (out : List (Int)), k + d = gr.length → out.length ≤ k → full = out ++ cmpZ (fun (k : Nat) => B.getD k false) (fun (k : Nat) => (k : Int)) d k →
        (out = [] → G [.und, .und, .und, .und, .und, .und, .row 0 gr.length, .und, .und, .und, .nils, .int .i64 (k : Int), .und, .und, .und, .und, .und, .und, .und, .und, .und, .und, .und, .und, .und, .und, .und, .und, .und, .und, .und, .und, .und, .und, .und, .und, .und, .und, .und, .und, .und, .und, .und, .und, .und, .und, .und, .und, .und, .und, .und, .und, .und, .und, .und, .und, .und, .und, .und, .und, .und, .und, .und, .und, .und, .und, .und, .und, .und, .und, .und, .und, .und, .und, .und, .und, .und, .und, .und, .und, .und, .und, .und, .und, .und, .und, .und] [.row 4 1 gr.length (gB B) 0]) ∧ (out ≠ [] → G [.und, .und, .und, .und, .und, .und, .row 0 gr.length, .und, .und, .und, .row 1 out.length, .int .i64 (k : Int), .und, .und, .und, .und, .und, .und, .und, .und, .und, .und, .und, .und, .und, .und, .und, .und, .und, .und, .und, .und, .und, .und, .und, .und, .und, .und, .und, .und, .und, .und, .und, .und, .und, .und, .und, .und, .und, .und, .und, .und, .und, .und, .und, .und, .und, .und, .und, .und, .und, .und, .und, .und, .und, .und, .und, .und, .und, .und, .und, .und, .und, .und, .und, .und, .und, .und, .und, .und, .und, .und, .und, .und, .und, .und, .und] [.row 4 1 gr.length (gB B) 0, .row 3 1 out.length (getL cI out) 0]) := by
      intro d
      induction d with
      | zero =>
        intro k out hk ho he
        have he : full = out := he.trans (List.append_nil _)
        rw [he] at h0 h1
        refine ⟨fun hn => ?_, fun hn => ?_⟩
        · obtain ⟨rfl, rfl⟩ := h0 hn
          apply gs
          conv => whnf
          refine Cond.ff (decF (by omega)) ?_
          (conv => whnf) <;> repeat' (first | ((first | refine wN ?_ | refine wNc ?_ | refine wA ?_ | refine wB ?_ | refine wC ?_ | refine wD ?_ | refine vA ?_ | refine vB ?_ | refine vC ?_ | refine vD ?_ | refine uA ?_ | refine uB ?_ | refine uC ?_ | refine uD ?_); conv => whnf) | ((first | apply Pick.dec | apply Pick.beq | apply Cond.dec | apply Cond.beq | apply Cond.nd | apply Pick.nd | apply Pick.mk | apply Cond.mk) <;> intro h <;> conv => whnf))
          exact End.mk rfl rfl
        · obtain ⟨rfl, rfl⟩ := h1 hn
          apply gs
          conv => whnf
          refine Cond.ff (decF (by omega)) ?_
          (conv => whnf) <;> repeat' (first | ((first | refine wN ?_ | refine wNc ?_ | refine wA ?_ | refine wB ?_ | refine wC ?_ | refine wD ?_ | refine vA ?_ | refine vB ?_ | refine vC ?_ | refine vD ?_ | refine uA ?_ | refine uB ?_ | refine uC ?_ | refine uD ?_); conv => whnf) | ((first | apply Pick.dec | apply Pick.beq | apply Cond.dec | apply Cond.beq | apply Cond.nd | apply Pick.nd | apply Pick.mk | apply Cond.mk) <;> intro h <;> conv => whnf))
          exact EndH.mk [1] rfl rfl rfl
      | succ d im =>
        intro k out hk ho he
        have hkl : k < gr.length := by omega
        have e1 : IntKind.i64.wrap ((k : Int) + 1) = ((k + 1 : Nat) : Int) := by rw [wi64_id (by omega) (by omega)]; omega
        have tk := toNat_nn k
        have imS := im (k + 1) out (by omega) (by omega)
        have imG := im (k + 1) (out ++ [(k : Int)]) (by omega) (by rw [List.length_append]; simp; omega)
        have elen : (out ++ [(k : Int)]).length = out.length + 1 := by simp
        have he : full = out ++ (if B.getD k false = true then (k : Int) :: cmpZ (fun (k : Nat) => B.getD k false) (fun (k : Nat) => (k : Int)) d (k + 1) else cmpZ (fun (k : Nat) => B.getD k false) (fun (k : Nat) => (k : Int)) d (k + 1)) := he
        cases hp : B.getD k false with
        | true =>
          rw [if_pos hp] at he
          have imG := (imG (by rw [he]; simp)).2 (by simp)
          rw [elen] at imG
          refine ⟨fun hn => ?_, fun hn => ?_⟩
          · subst hn
            apply gs
            conv => whnf
            refine Cond.tt (decT (by omega)) ?_
            (conv => whnf) <;> repeat' (first | (rw [tk]; conv => whnf) | (rw [hp]; conv => whnf) | (rw [getI_one]; conv => whnf) | ((first | refine wN ?_ | refine wNc ?_ | refine wA ?_ | refine wB ?_ | refine wC ?_ | refine wD ?_ | refine vA ?_ | refine vB ?_ | refine vC ?_ | refine vD ?_ | refine uA ?_ | refine uB ?_ | refine uC ?_ | refine uD ?_); conv => whnf) | ((first | apply Pick.dec | apply Pick.beq | apply Cond.dec | apply Cond.beq | apply Cond.nd | apply Pick.nd | apply Pick.mk | apply Cond.mk) <;> intro h <;> conv => whnf))
            rw [e1]
            apply gw [0, 2] [false, false, false, false, false, false, true, false, false, false, true, true] _ _ rfl
            exact imG
          · apply gs
            conv => whnf
            refine Cond.tt (decT (by omega)) ?_
            (conv => whnf) <;> repeat' (first | (rw [tk]; conv => whnf) | (rw [hp]; conv => whnf) | (rw [getI_snoc]; conv => whnf) | ((first | refine wN ?_ | refine wNc ?_ | refine wA ?_ | refine wB ?_ | refine wC ?_ | refine wD ?_ | refine vA ?_ | refine vB ?_ | refine vC ?_ | refine vD ?_ | refine uA ?_ | refine uB ?_ | refine uC ?_ | refine uD ?_); conv => whnf) | ((first | apply Pick.dec | apply Pick.beq | apply Cond.dec | apply Cond.beq | apply Cond.nd | apply Pick.nd | apply Pick.mk | apply Cond.mk) <;> intro h <;> conv => whnf))
            rw [e1]
            apply gw [0, 3] [false, false, false, false, false, false, true, false, false, false, true, true] _ _ rfl
            exact imG
        | false =>
          rw [if_neg (by rw [hp]; simp)] at he
          have imS := imS he
          refine ⟨fun hn => ?_, fun hn => ?_⟩
          · apply gs
            conv => whnf
            refine Cond.tt (decT (by omega)) ?_
            (conv => whnf) <;> repeat' (first | (rw [tk]; conv => whnf) | (rw [hp]; conv => whnf) | ((first | refine wN ?_ | refine wNc ?_ | refine wA ?_ | refine wB ?_ | refine wC ?_ | refine wD ?_ | refine vA ?_ | refine vB ?_ | refine vC ?_ | refine vD ?_ | refine uA ?_ | refine uB ?_ | refine uC ?_ | refine uD ?_); conv => whnf) | ((first | apply Pick.dec | apply Pick.beq | apply Cond.dec | apply Cond.beq | apply Cond.nd | apply Pick.nd | apply Pick.mk | apply Cond.mk) <;> intro h <;> conv => whnf))
            rw [e1]
            apply gw [0] [false, false, false, false, false, false, true, false, false, false, true, true] _ _ rfl
            exact imS.1 hn
          · apply gs
            conv => whnf
            refine Cond.tt (decT (by omega)) ?_
            (conv => whnf) <;> repeat' (first | (rw [tk]; conv => whnf) | (rw [hp]; conv => whnf) | ((first | refine wN ?_ | refine wNc ?_ | refine wA ?_ | refine wB ?_ | refine wC ?_ | refine wD ?_ | refine vA ?_ | refine vB ?_ | refine vC ?_ | refine vD ?_ | refine uA ?_ | refine uB ?_ | refine uC ?_ | refine uD ?_); conv => whnf) | ((first | apply Pick.dec | apply Pick.beq | apply Cond.dec | apply Cond.beq | apply Cond.nd | apply Pick.nd | apply Pick.mk | apply Cond.mk) <;> intro h <;> conv => whnf))
            rw [e1]
            apply gw [0, 1] [false, false, false, false, false, false, true, false, false, false, true, true] _ _ rfl
            exact imS.2 hn
    apply gw [0] [false, false, false, false, false, false, true, false, false, false, true, true] _ _ rfl
    exact (turn gr.length 0 [] (by omega) (by simp) (by rw [hf]; rfl)).1 rfl
  -- the passes
  have pass : ∀ (f : Nat) (B : List Bool), B.count false < f → BOk gr n B →
      J [.und, .int .i64 n, .und, .und, .und, eL 1 cRow gr, .row 0 gr.length, .bool true, .und, .und, .und, .und, .und, .und, .und, .und, .und, .und, .und, .und, .und, .und, .und, .und, .und, .und, .und, .und, .und, .und, .und, .und, .und, .und, .und, .und, .und, .und, .und, .und, .und, .und, .und, .und, .und, .und, .und, .und, .und, .und, .und, .und, .und, .und, .und, .und, .und, .und, .und, .und, .und, .und, .und, .und, .und, .und, .und, .und, .und, .und, .und, .und, .und, .und, .und, .und, .und, .und, .und, .und, .und, .und, .und, .und, .und, .und, .und] [.row 4 1 gr.length (gB B) 0] := by
    intro f
    induction f with
    | zero => intro B hf; omega
    | succ f ihf =>
      intro B hf hB
      apply js
      conv => whnf
      refine Cond.tt rfl ?_
      (conv => whnf) <;> repeat' (first | ((first | refine wN ?_ | refine wNc ?_ | refine wA ?_ | refine wB ?_ | refine wC ?_ | refine wD ?_ | refine vA ?_ | refine vB ?_ | refine vC ?_ | refine vD ?_ | refine uA ?_ | refine uB ?_ | refine uC ?_ | refine uD ?_); conv => whnf) | ((first | apply Pick.dec | apply Pick.beq | apply Cond.dec | apply Cond.beq | apply Cond.nd | apply Pick.nd | apply Pick.mk | apply Cond.mk) <;> intro h <;> conv => whnf))
      intro K kw ks
      clear h0 h1 hfull
      -- how far a pass is: what again says, and what was found
      have inner : ∀ (d k : Nat) (B2 : List Bool) (b : Bool), k + d = gr.length → BOk gr n B2 → (b = true → B2.count false < B.count false) → (b = false → B2 = B ∧ ∀ i, i < k → closedAt gr n B i) →
          K [.und, .int .i64 n, .und, .und, .und, eL 1 cRow gr, .row 0 gr.length, .bool b, .int .i64 (k : Int), .und, .und, .und, .und, .und, .und, .und, .und, .und, .und, .und, .und, .und, .und, .und, .und, .und, .und, .und, .und, .und, .und, .und, .und, .und, .und, .und, .und, .und, .und, .und, .und, .und, .und, .und, .und, .und, .und, .und, .und, .und, .und, .und, .und, .und, .und, .und, .und, .und, .und, .und, .und, .und, .und, .und, .und, .und, .und, .und, .und, .und, .und, .und, .und, .und, .und, .und, .und, .und, .und, .und, .und, .und, .und, .und, .und, .und, .und] [.row 4 1 gr.length (gB B2) 0] := by
        intro d
        induction d with
        | zero =>
          intro k B2 b hk hB2 ht hf2
          obtain rfl : k = gr.length := by omega
          apply ks
          conv => whnf
          refine Cond.ff (decF (by omega)) ?_
          (conv => whnf) <;> repeat' (first | ((first | refine wN ?_ | refine wNc ?_ | refine wA ?_ | refine wB ?_ | refine wC ?_ | refine wD ?_ | refine vA ?_ | refine vB ?_ | refine vC ?_ | refine vD ?_ | refine uA ?_ | refine uB ?_ | refine uC ?_ | refine uD ?_); conv => whnf) | ((first | apply Pick.dec | apply Pick.beq | apply Cond.dec | apply Cond.beq | apply Cond.nd | apply Pick.nd | apply Pick.mk | apply Cond.mk) <;> intro h <;> conv => whnf))
          cases b with
          | true =>
            have := ht rfl
            apply jw [0] [false, true, false, false, false, true, true, true] _ _ rfl
            exact ihf B2 (by omega) hB2
          | false =>
            obtain ⟨rfl, hcl⟩ := hf2 rfl
            apply jw [0] [false, true, false, false, false, true, true, true] _ _ rfl
            exact done B2 hB2 hcl
        | succ d im =>
          intro k B2 b hk hB2 ht hf2
          have hkl : k < gr.length := by omega
          have gk : getL cRow gr (Int.toNat (k : Int)) = cRow gr[k] := by rw [Int.toNat_natCast]; exact getL_at (List.getElem?_eq_getElem hkl)
          have e1 : IntKind.i64.wrap ((k : Int) + 1) = ((k + 1 : Nat) : Int) := by rw [wi64_id (by omega) (by omega)]; omega
          have tk := toNat_nn k
          have hrk := hrl gr[k] (List.getElem_mem hkl)
          have hik := hin gr[k] (List.getElem_mem hkl)
          have hgk : gr.getD k [] = gr[k] := by rw [List.getD_eq_getElem?_getD, List.getElem?_eq_getElem hkl]; rfl
          have hset := fun (j : Int) (hj : j ∈ gr[k]) (hb : j = n ∨ B2.getD j.toNat false = true) => hB2.set hkl hj (hik j hj) hb
          have hcnt := count_set (B := B2) (k := k) (by rw [hB2.len]; exact hkl)
          have hgs := gB_set (B := B2) (i := k) (by rw [hB2.len]; exact hkl)
          have hgt := getB_set (B := B2) (k := k) (i := k) (by rw [hB2.len]; exact hkl)
          rw [if_pos rfl] at hgt
          generalize hr : gr[k] = r at *
          apply ks
          conv => whnf
          refine Cond.tt (decT (by omega)) ?_
          (conv => whnf) <;> repeat' (first | ((first | refine wN ?_ | refine wNc ?_ | refine wA ?_ | refine wB ?_ | refine wC ?_ | refine wD ?_ | refine vA ?_ | refine vB ?_ | refine vC ?_ | refine vD ?_ | refine uA ?_ | refine uB ?_ | refine uC ?_ | refine uD ?_); conv => whnf) | ((first | apply Pick.dec | apply Pick.beq | apply Cond.dec | apply Cond.beq | apply Cond.nd | apply Pick.nd | apply Pick.mk | apply Cond.mk) <;> intro h <;> conv => whnf))
          intro I iw is
          clear ihf done js jw ks
          -- the loop is left
          have out : ∀ (i : Nat) (B3 : List Bool) (b3 : Bool), BOk gr n B3 → (b3 = true → B3.count false < B.count false) → (b3 = false → B3 = B ∧ ∀ i, i < k + 1 → closedAt gr n B i) → i ≤ r.length → (i < r.length → B3.getD k false = true) →
              I [.und, .int .i64 n, .und, .und, .und, eL 1 cRow gr, .row 0 gr.length, .bool b3, .int .i64 (k : Int), .int .i64 (i : Int), .und, .und, .und, .und, .und, .und, .und, .und, .und, .und, .und, .und, .und, .und, .und, .und, .und, .und, .und, .und, .und, .und, .und, .und, .und, .und, .und, .und, .und, .und, .und, .und, .und, .und, .und, .und, .und, .und, .und, .und, .und, .und, .und, .und, .und, .und, .und, .und, .und, .und, .und, .und, .und, .und, .und, .und, .und, .und, .und, .und, .und, .und, .und, .und, .und, .und, .und, .und, .und, .und, .und, .und, .und, .und, .und, .und, .und] [.row 4 1 gr.length (gB B3) 0] := by
            intro i B3 b3 hB3 ht3 hf3 hil hx
            have im := im (k + 1) B3 b3 (by omega) hB3 ht3 hf3
            by_cases h : i < r.length
            · have hx := hx h
              apply is
              (conv => whnf) <;> repeat' (first | ((conv => arg 1; whnf); rw [gk]; conv => whnf) | (rw [tk]; conv => whnf) | (rw [hx]; conv => whnf) | ((first | refine wN ?_ | refine wNc ?_ | refine wA ?_ | refine wB ?_ | refine wC ?_ | refine wD ?_ | refine vA ?_ | refine vB ?_ | refine vC ?_ | refine vD ?_ | refine uA ?_ | refine uB ?_ | refine uC ?_ | refine uD ?_); conv => whnf) | ((first | apply Pick.dec | apply Pick.beq | apply Cond.dec | apply Cond.beq | apply Cond.nd | apply Pick.nd | apply Pick.mk | apply Cond.mk) <;> intro h <;> conv => whnf))
              rw [e1]
              apply kw [0] [false, true, false, false, false, true, true, true, true] _ _ rfl
              exact im
            · apply is
              (conv => whnf) <;> repeat' (first | ((conv => arg 1; whnf); rw [gk]; conv => whnf) | ((first | refine wN ?_ | refine wNc ?_ | refine wA ?_ | refine wB ?_ | refine wC ?_ | refine wD ?_ | refine vA ?_ | refine vB ?_ | refine vC ?_ | refine vD ?_ | refine uA ?_ | refine uB ?_ | refine uC ?_ | refine uD ?_); conv => whnf) | ((first | apply Pick.dec | apply Pick.beq | apply Cond.dec | apply Cond.beq | apply Cond.nd | apply Pick.nd | apply Pick.mk | apply Cond.mk) <;> intro h <;> conv => whnf))
              rw [e1]
              apply kw [0] [false, true, false, false, false, true, true, true, true] _ _ rfl
              exact im
          have look : ∀ (e i : Nat), i + e = r.length → (∀ j ∈ r.take i, ¬ (j = n ∨ B2.getD j.toNat false = true)) →
              I [.und, .int .i64 n, .und, .und, .und, eL 1 cRow gr, .row 0 gr.length, .bool b, .int .i64 (k : Int), .int .i64 (i : Int), .und, .und, .und, .und, .und, .und, .und, .und, .und, .und, .und, .und, .und, .und, .und, .und, .und, .und, .und, .und, .und, .und, .und, .und, .und, .und, .und, .und, .und, .und, .und, .und, .und, .und, .und, .und, .und, .und, .und, .und, .und, .und, .und, .und, .und, .und, .und, .und, .und, .und, .und, .und, .und, .und, .und, .und, .und, .und, .und, .und, .und, .und, .und, .und, .und, .und, .und, .und, .und, .und, .und, .und, .und, .und, .und, .und, .und] [.row 4 1 gr.length (gB B2) 0] := by
            intro e
            induction e with
            | zero =>
              intro i hi hno
              refine out i B2 b hB2 ht (fun hb => ⟨(hf2 hb).1, fun i' hi' => ?_⟩) (by omega) (fun h => by omega)
              rcases Nat.lt_or_ge i' k with h5 | h5
              · exact (hf2 hb).2 i' h5
              · obtain rfl : i' = k := by omega
                intro j hj hx
                rw [hgk] at hj
                rw [← (hf2 hb).1] at hx
                rw [List.take_of_length_le (by omega)] at hno
                exact absurd hx (hno j hj)
            | succ e ie =>
              intro i hi hno
              have hil : i < r.length := by omega
              cases hbk : B2.getD k false with
              | true =>
                refine out i B2 b hB2 ht (fun hb => ⟨(hf2 hb).1, fun i' hi' => ?_⟩) (by omega) (fun h => hbk)
                rcases Nat.lt_or_ge i' k with h5 | h5
                · exact (hf2 hb).2 i' h5
                · obtain rfl : i' = k := by omega
                  intro j hj hx
                  rw [← (hf2 hb).1]; exact hbk
              | false =>
                have gi : getL cI r (Int.toNat (i : Int)) = cI r[i] := by rw [Int.toNat_natCast]; exact getL_at (List.getElem?_eq_getElem hil)
                have e3 : IntKind.i64.wrap ((i : Int) + 1) = ((i + 1 : Nat) : Int) := by rw [wi64_id (by omega) (by omega)]; omega
                have hj := hik r[i] (List.getElem_mem hil)
                have hset := hset r[i] (List.getElem_mem hil)
                have hcnt := hcnt hbk
                have ie := ie (i + 1) (by omega)
                rw [List.take_succ_eq_append_getElem hil] at ie
                have hle : B2.count false ≤ B.count false := by
                  cases b with
                  | true => exact Nat.le_of_lt (ht rfl)
                  | false => rw [(hf2 rfl).1]; exact Nat.le_refl _
                have outS := fun hb => out (i + 1) (B2.set k true) true (hset hb) (fun _ => by omega) (fun h => by cases h) (by omega) (fun _ => hgt)
                rw [← hgs] at outS
                generalize r[i] = j at *
                obtain ⟨hj0, hj1⟩ := hj
                clear out hset hgs hgt hr
                by_cases hjn : j = n
                · have outS := outS (.inl hjn)
                  have f1 : (j == n) = true := by rw [hjn]; simp
                  apply is
                  (conv => whnf) <;> repeat' (first | ((conv => arg 1; whnf); rw [gk]; conv => whnf) | ((conv => arg 1; whnf); rw [gi]; conv => whnf) | (rw [tk]; conv => whnf) | (rw [hbk]; conv => whnf) | (rw [f1]; conv => whnf) | ((first | refine wN ?_ | refine wNc ?_ | refine wA ?_ | refine wB ?_ | refine wC ?_ | refine wD ?_ | refine vA ?_ | refine vB ?_ | refine vC ?_ | refine vD ?_ | refine uA ?_ | refine uB ?_ | refine uC ?_ | refine uD ?_); conv => whnf) | ((first | apply Pick.dec | apply Pick.beq | apply Cond.dec | apply Cond.beq | apply Cond.nd | apply Pick.nd | apply Pick.mk | apply Cond.mk) <;> intro h <;> conv => whnf))
                  rw [e3]
                  apply iw [0] [false, true, false, false, false, true, true, true, true, true] _ _ rfl
                  exact outS
                · have f1 : (j == n) = false := by simpa using hjn
                  cases hbj : B2.getD j.toNat false with
                  | true =>
                    have outS := outS (.inr hbj)
                    apply is
                    (conv => whnf) <;> repeat' (first | ((conv => arg 1; whnf); rw [gk]; conv => whnf) | ((conv => arg 1; whnf); rw [gi]; conv => whnf) | (rw [tk]; conv => whnf) | (rw [hbk]; conv => whnf) | (rw [f1]; conv => whnf) | (rw [hbj]; conv => whnf) | ((first | refine wN ?_ | refine wNc ?_ | refine wA ?_ | refine wB ?_ | refine wC ?_ | refine wD ?_ | refine vA ?_ | refine vB ?_ | refine vC ?_ | refine vD ?_ | refine uA ?_ | refine uB ?_ | refine uC ?_ | refine uD ?_); conv => whnf) | ((first | apply Pick.dec | apply Pick.beq | apply Cond.dec | apply Cond.beq | apply Cond.nd | apply Pick.nd | apply Pick.mk | apply Cond.mk) <;> intro h <;> conv => whnf))
                    rw [e3]
                    apply iw [0] [false, true, false, false, false, true, true, true, true, true] _ _ rfl
                    exact outS
                  | false =>
                    have ie := ie (fun x hx => by
                      rcases List.mem_append.1 hx with hx | hx
                      · exact hno x hx
                      · obtain rfl : x = j := by simpa using hx
                        rintro (h9 | h9)
                        · exact hjn h9
                        · rw [hbj] at h9; cases h9)
                    apply is
                    (conv => whnf) <;> repeat' (first | ((conv => arg 1; whnf); rw [gk]; conv => whnf) | ((conv => arg 1; whnf); rw [gi]; conv => whnf) | (rw [tk]; conv => whnf) | (rw [hbk]; conv => whnf) | (rw [f1]; conv => whnf) | (rw [hbj]; conv => whnf) | ((first | refine wN ?_ | refine wNc ?_ | refine wA ?_ | refine wB ?_ | refine wC ?_ | refine wD ?_ | refine vA ?_ | refine vB ?_ | refine vC ?_ | refine vD ?_ | refine uA ?_ | refine uB ?_ | refine uC ?_ | refine uD ?_); conv => whnf) | ((first | apply Pick.dec | apply Pick.beq | apply Cond.dec | apply Cond.beq | apply Cond.nd | apply Pick.nd | apply Pick.mk | apply Cond.mk) <;> intro h <;> conv => whnf))
                    rw [e3]
                    apply iw [0] [false, true, false, false, false, true, true, true, true, true] _ _ rfl
                    exact ie
          apply iw [0] [false, true, false, false, false, true, true, true, true, true] _ _ rfl
          exact look r.length 0 (by omega) (fun j hj => absurd hj (by simp))
      apply kw [0] [false, true, false, false, false, true, true, true, true] _ _ rfl
      exact inner gr.length 0 B false (by omega) hB (fun h => by cases h) (fun _ => ⟨rfl, fun i hi => by omega⟩)
  apply jw [0] [false, true, false, false, false, true, true, true] _ _ rfl
  have hz2 : (fun _ : Nat => (tab 4).zero) = gB (List.replicate gr.length false) := hz
  try rw [hz2]
  exact pass (gr.length + 1) (List.replicate gr.length false) (by rw [List.count_replicate_self]; omega) ⟨by simp, fun k hk h => by
    rw [List.getD_eq_getElem?_getD, List.getElem?_replicate, if_pos hk] at h
    cases h⟩
end Go.Proofs.Ythjgnmpnagmeoaa

set_option linter.unusedVariables false
set_option linter.unusedSimpArgs false
set_option maxRecDepth 100000
namespace Go.Proofs.Ythjgnmpnagmeoaa
open Go.AM
theorem rbelow_ret (l : List Se) (hL : LOk l) (n : Int) : Ret Try.prog 28 [eL 5 cSe l, .int .i64 n] [] (eL 1 cI (belowF (graphF l) n)) [] := by
  have hgl := graphF_len l
  have hm := hL.many
  have hG := all_ret l hL
  by_cases hn : 0 ≤ n ∧ n < ((graphF l).length : Int)
  · have hgo := rbelow_go l (graphF l) n hn hG (by omega) (fun r hr => by
      obtain ⟨k, hk, rfl⟩ := List.mem_iff_getElem.1 hr
      rw [graphF_at]
      exact readsF_len l _ hL) (fun r hr j hj => by
      obtain ⟨k, hk, rfl⟩ := List.mem_iff_getElem.1 hr
      rw [graphF_at] at hj
      rw [hgl]
      exact readsF_lt hj) (belowF (graphF l) n) rfl
    generalize belowF (graphF l) n = full at *
    by_cases he : full = []
    · have h := hgo _ _ (fun _ => ⟨rfl, rfl⟩) (fun k => absurd he k)
      rw [he]
      exact h.leR le_nils
    · have h := hgo _ _ (fun k => absurd k he) (fun _ => ⟨rfl, rfl⟩)
      exact h.lend ⟨rfl, Nat.le_refl _, Nat.le_refl _⟩ rfl
  · have e : belowF (graphF l) n = [] := if_neg hn
    rw [e]
    have h : Ret Try.prog 28 [eL 5 cSe l, .int .i64 n] [] .nils [] := by
      generalize graphF l = gr at *
      by_cases h0 : n < 0
      · refine ret_of_body atNone tok mixed Try.func28 (by kernel_rfl) rfl (k := 87) (rs := [.tmp 4]) (by kernel_rfl) (by kernel_rfl) ?_
        (conv => whnf) <;> repeat' (first | ((first | refine wN ?_ | refine wNc ?_ | refine wA ?_ | refine wB ?_ | refine wC ?_ | refine wD ?_ | refine Called.mk _ _ (hG) ?_ | refine vA ?_ | refine vB ?_ | refine vC ?_ | refine vD ?_ | refine uA ?_ | refine uB ?_ | refine uC ?_ | refine uD ?_); conv => whnf) | ((first | apply Pick.dec | apply Pick.beq | apply Cond.dec | apply Cond.beq | apply Cond.nd | apply Pick.nd | apply Pick.mk | apply Cond.mk) <;> intro h <;> conv => whnf))
        exact End.mk rfl rfl
      · have h1 : ((gr.length : Nat) : Int) ≤ n := by omega
        refine ret_of_body atNone tok mixed Try.func28 (by kernel_rfl) rfl (k := 87) (rs := [.tmp 4]) (by kernel_rfl) (by kernel_rfl) ?_
        (conv => whnf) <;> repeat' (first | ((first | refine wN ?_ | refine wNc ?_ | refine wA ?_ | refine wB ?_ | refine wC ?_ | refine wD ?_ | refine Called.mk _ _ (hG) ?_ | refine vA ?_ | refine vB ?_ | refine vC ?_ | refine vD ?_ | refine uA ?_ | refine uB ?_ | refine uC ?_ | refine uD ?_); conv => whnf) | ((first | apply Pick.dec | apply Pick.beq | apply Cond.dec | apply Cond.beq | apply Cond.nd | apply Pick.nd | apply Pick.mk | apply Cond.mk) <;> intro h <;> conv => whnf))
        exact End.mk rfl rfl
    exact h.leR le_nils
end Go.Proofs.Ythjgnmpnagmeoaa

set_option linter.unusedVariables false
set_option linter.unusedSimpArgs false
set_option maxRecDepth 100000
namespace Go.Proofs.Ythjgnmpnagmeoaa
open Go.AM
theorem usersF_len (l : List Se) (n : Int) (hm : manyN l ≤ 1048576) : (usersF l n).length ≤ 1048576 := by
  unfold usersF
  have := List.length_filter_le (fun k => decide (n ∈ readsF l k)) (zeroTo (manyN l))
  rw [zeroTo_len] at this
  omega
theorem belowF_len (l : List Se) (n : Int) (hm : manyN l ≤ 1048576) : (belowF (graphF l) n).length ≤ 1048576 := by
  unfold belowF
  split
  · have := List.length_filter_le (fun k => @decide (Below (graphF l) n k) (Classical.propDecidable _)) (zeroTo (graphF l).length)
    rw [zeroTo_len, graphF_len] at this
    rw [graphF_len]
    omega
  · exact Nat.zero_le _
def BelowC : Prop := ∀ (l : List Se), LOk l → ∀ n : Int, n ≤ 9223372036854775807 → Ret Try.prog 27 [eL 5 cSe l, .int .i64 n] [] (eL 1 cI (belowF (graphF l) n)) []
set_option maxHeartbeats 4000000 in
theorem ranksReads_of (hBelow : BelowC) (l : List Se) (n s i : Int) (hn : n ≤ 9223372036854775807) (hi : i ≤ 9223372036854775807) (hl : l.length ≤ maxLen) (hok : ∀ s ∈ l, s.Ok) (hm : manyN l ≤ 1048576) (hc : ∀ s ∈ l, ∀ i ∈ s.items, cntX i.expr ≤ 1048576) :
    Ret Try.prog 5 [.agg [eL 5 cSe l, .int .i64 n, .int .i64 s, .int .i64 i]] [] (.bool true) [] := by
  have hS := small_ret l hl hok
  have hV := live_ret
  by_cases hb : smallB l = true
  · have hL : LOk l := ⟨smallB_len hb, hm, hok, hc⟩
    have k1 := number_ret l s i hi hL.len hm
    have k2 := rNumber_ret l s i hi hL.len hm
    have k3 := of_ret l n hn hL.len hm
    have k4 := rOf_ret l n hn hL.len hm
    have k5 := reads_ret l hL n hn
    have k6 := rReads_ret l hL n hn
    have k7 := users_ret l hL n
    have k8 := rusers_ret l hL n
    have k9 := hBelow l hL n hn
    have ka := rbelow_ret l hL n
    have q1 := equalI_ret _ (readsF_len l n hL)
    have q2 := equalI_ret _ (usersF_len l n hm)
    have q3 := equalI_ret _ (belowF_len l n hm)
    rw [hb] at hS
    clear hBelow
    generalize readsF l n = r1 at *
    generalize usersF l n = r2 at *
    generalize belowF (graphF l) n = r3 at *
    generalize numF l s i = p at *
    generalize ofF l n = q at *
    obtain ⟨pa, pb⟩ := p
    obtain ⟨qa, qb, qc⟩ := q
    dsimp only at k1 k2 k3 k4
    have f1 : (pb == pb) = true := by simp
    have f2 : (qc == qc) = true := by simp
    refine ret_of_body atCalls tok mixed Try.func5 (by kernel_rfl) rfl (k := 111) (rs := [.tmp 2]) (by kernel_rfl) (by kernel_rfl) ?_
    (conv => whnf) <;> repeat' (first | (rw [f1]; conv => whnf) | (rw [f2]; conv => whnf) | ((first | refine wN ?_ | refine wNc ?_ | refine wA ?_ | refine wB ?_ | refine wC ?_ | refine wD ?_ | refine Called.mk _ _ (hS) ?_ | refine Called.mk _ _ (hV) ?_ | refine Called.mk _ _ (k1) ?_ | refine Called.mk _ _ (k2) ?_ | refine Called.mk _ _ (k3) ?_ | refine Called.mk _ _ (k4) ?_ | refine Called.mk _ _ (k5) ?_ | refine Called.mk _ _ (k6) ?_ | refine Called.mk _ _ (k7) ?_ | refine Called.mk _ _ (k8) ?_ | refine Called.mk _ _ (k9) ?_ | refine Called.mk _ _ (ka) ?_ | refine Called.mk _ _ (q1) ?_ | refine Called.mk _ _ (q2) ?_ | refine Called.mk _ _ (q3) ?_ | refine vA ?_ | refine vB ?_ | refine vC ?_ | refine vD ?_ | refine uA ?_ | refine uB ?_ | refine uC ?_ | refine uD ?_); conv => whnf) | ((first | apply Pick.dec | apply Pick.beq | apply Cond.dec | apply Cond.beq | apply Cond.nd | apply Pick.nd | apply Pick.mk | apply Cond.mk) <;> intro h <;> conv => whnf))
    all_goals exact End.mk rfl rfl
  · have hb : smallB l = false := by simpa using hb
    rw [hb] at hS
    refine ret_of_body atCalls tok mixed Try.func5 (by kernel_rfl) rfl (k := 111) (rs := [.tmp 2]) (by kernel_rfl) (by kernel_rfl) ?_
    (conv => whnf) <;> repeat' (first | ((first | refine wN ?_ | refine wNc ?_ | refine wA ?_ | refine wB ?_ | refine wC ?_ | refine wD ?_ | refine Called.mk _ _ (hS) ?_ | refine Called.mk _ _ (hV) ?_ | refine vA ?_ | refine vB ?_ | refine vC ?_ | refine vD ?_ | refine uA ?_ | refine uB ?_ | refine uC ?_ | refine uD ?_); conv => whnf) | ((first | apply Pick.dec | apply Pick.beq | apply Cond.dec | apply Cond.beq | apply Cond.nd | apply Pick.nd | apply Pick.mk | apply Cond.mk) <;> intro h <;> conv => whnf))
    all_goals exact End.mk rfl rfl
end Go.Proofs.Ythjgnmpnagmeoaa

set_option linter.unusedVariables false
set_option linter.unusedSimpArgs false
set_option maxRecDepth 100000
namespace Go.Proofs.Ythjgnmpnagmeoaa
open Go.AM
abbrev bwF : FuncId := 50
set_option maxHeartbeats 8000000 in
theorem bwalk_ret (us : List (List Int)) (M : Nat) (hM : M ≤ 1048576) (hus : us.length = M) (hu : ∀ r ∈ us, ∀ j ∈ r, 0 ≤ j ∧ j < (M : Int)) (hul : ∀ r ∈ us, r.length ≤ 1048576) : ∀ (f : Nat) (es : List (Int × Unit)) (m : Int), SOk M es → M < f + es.length →
    Ret Try.prog bwF [.int .i64 m, .ptr 0 0, .ptr 1 0, .ptr 2 0] [.cells [eL 1 cRow us], .cells [.map 3], .cells [.fn bwF [] [.ptr 0 0, .ptr 1 0, .ptr 2 0]], setZ es] (.tup []) [.cells [eL 1 cRow us], .cells [.map 3], .cells [.fn bwF [] [.ptr 0 0, .ptr 1 0, .ptr 2 0]], setZ (dfsF f us (usAt us m) es)] := by
  intro f
  induction f with
  | zero => intro es m hs hf; have := hs.len; omega
  | succ f ih =>
    intro es m hs hf
    have hul' : ((us.length : Nat) : Int) = (M : Int) := by rw [hus]
    by_cases hr : 0 ≤ m ∧ m < (M : Int)
    · obtain ⟨hm0, hm1⟩ := hr
      have hml : m.toNat < us.length := by omega
      have gm : getL cRow us m.toNat = cRow us[m.toNat] := getL_at (List.getElem?_eq_getElem hml)
      have hat : usAt us m = us[m.toNat] := by unfold usAt; rw [if_neg (by omega), List.getD_eq_getElem?_getD, List.getElem?_eq_getElem hml]; rfl
      have hrl := hul _ (List.getElem_mem hml)
      have hri := hu _ (List.getElem_mem hml)
      rw [hat]
      generalize us[m.toNat] = r at *
      show Ret _ _ _ _ _ [_, _, _, setZ (r.foldl (fun es k => if (aget k es).isSome = true then es else dfsF f us (usAt us k) (aput k () es)) es)]
      generalize heF : r.foldl (fun es k => if (aget k es).isSome = true then es else dfsF f us (usAt us k) (aput k () es)) es = eF
      refine ret_of_body atCalls tok mixed Try.func50 (by kernel_rfl) rfl (k := 34) (rs := []) (by kernel_rfl) (by kernel_rfl) ?_
      (conv => whnf) <;> repeat' (first | (rw [hul']; conv => whnf) | ((conv => arg 1; whnf); rw [gm]; conv => whnf) | ((first | refine wN ?_ | refine wNc ?_ | refine wA ?_ | refine wB ?_ | refine wC ?_ | refine wD ?_ | refine vA ?_ | refine vB ?_ | refine vC ?_ | refine vD ?_ | refine uA ?_ | refine uB ?_ | refine uC ?_ | refine uD ?_); conv => whnf) | ((first | apply Pick.dec | apply Pick.beq | apply Cond.dec | apply Cond.beq | apply Cond.nd | apply Pick.nd | apply Pick.mk | apply Cond.mk) <;> intro h <;> conv => whnf))
      intro J jw js
      have turn : ∀ (d i : Nat) (e1 : List (Int × Unit)), i + d = r.length → SOk M e1 → es.length ≤ e1.length →
          (r.drop i).foldl (fun es k => if (aget k es).isSome = true then es else dfsF f us (usAt us k) (aput k () es)) e1 = eF →
          J [.und, .ptr 0 0, .ptr 1 0, .ptr 2 0, .und, .und, .und, .und, .und, .und, .und, .und, .und, .und, .und, .und, .und, .und, eL 1 cI r, .int .i64 (r.length : Int), .int .i64 (i : Int), .und, .und, .und, .und, .und, .und, .und, .und, .und, .und, .und, .und, .und] [.cells [eL 1 cRow us], .cells [.map 3], .cells [.fn bwF [] [.ptr 0 0, .ptr 1 0, .ptr 2 0]], setZ e1] := by
        intro d
        induction d with
        | zero =>
          intro i e1 hi h1 h2 he
          rw [List.drop_of_length_le (by omega)] at he
          have he : e1 = eF := he
          subst he
          apply js
          conv => whnf
          refine Cond.ff (decF (by omega)) ?_
          (conv => whnf) <;> repeat' (first | ((first | refine wN ?_ | refine wNc ?_ | refine wA ?_ | refine wB ?_ | refine wC ?_ | refine wD ?_ | refine vA ?_ | refine vB ?_ | refine vC ?_ | refine vD ?_ | refine uA ?_ | refine uB ?_ | refine uC ?_ | refine uD ?_); conv => whnf) | ((first | apply Pick.dec | apply Pick.beq | apply Cond.dec | apply Cond.beq | apply Cond.nd | apply Pick.nd | apply Pick.mk | apply Cond.mk) <;> intro h <;> conv => whnf))
          exact EndH.mk [0, 1, 2, 3] rfl rfl rfl
        | succ d im =>
          intro i e1 hi h1 h2 he
          have hil : i < r.length := by omega
          have gi : getL cI r (Int.toNat (i : Int)) = cI r[i] := by rw [Int.toNat_natCast]; exact getL_at (List.getElem?_eq_getElem hil)
          have ee : IntKind.i64.wrap ((i : Int) + 1) = ((i + 1 : Nat) : Int) := by rw [wi64_id (by omega) (by omega)]; omega
          have hk := hri r[i] (List.getElem_mem hil)
          rw [List.drop_eq_getElem_cons hil, List.foldl_cons] at he
          have im := im (i + 1)
          generalize r[i] = k at *
          have hF : mfind [.i .i64 k] (encM kI cT e1) = (aget k e1).map cT := mfind_enc kI_inj k e1
          have hP : mput [.i .i64 k] [.bool true] (encM kI cT e1) = encM kI cT (aput k () e1) := mput_enc (ev := cT) kI_inj k () e1
          cases hg : aget k e1 with
          | some u =>
            rw [hg] at he hF
            have he := (if_pos (show (some u).isSome = true from rfl)) ▸ he
            have hF : mfind [.i .i64 k] (encM kI cT e1) = some [.bool true] := hF
            have im := im e1 (by omega) h1 h2 he
            apply js
            conv => whnf
            refine Cond.tt (decT (by omega)) ?_
            (conv => whnf) <;> repeat' (first | ((conv => arg 1; whnf); rw [gi]; conv => whnf) | ((conv => arg 1; whnf); rw [hF]; conv => whnf) | ((first | refine wN ?_ | refine wNc ?_ | refine wA ?_ | refine wB ?_ | refine wC ?_ | refine wD ?_ | refine vA ?_ | refine vB ?_ | refine vC ?_ | refine vD ?_ | refine uA ?_ | refine uB ?_ | refine uC ?_ | refine uD ?_); conv => whnf) | ((first | apply Pick.dec | apply Pick.beq | apply Cond.dec | apply Cond.beq | apply Cond.nd | apply Pick.nd | apply Pick.mk | apply Cond.mk) <;> intro h <;> conv => whnf))
            rw [ee]
            apply jw [0, 1, 2, 3] [false, true, true, true, false, false, false, false, false, false, false, false, false, false, false, false, false, false, true, true, true] _ _ rfl
            exact im
          | none =>
            have hn : ¬ (aget k e1).isSome = true := by rw [hg]; simp
            obtain ⟨h3, h4⟩ := h1.put hk hn
            have hC := ih (aput k () e1) k h3 (by omega)
            obtain ⟨h5, h6⟩ := dfs_ok hu f (usAt us k) _ (fun j hj => usAt_rng hu hj) h3
            rw [if_neg hn] at he
            rw [hg] at hF
            have hF : mfind [.i .i64 k] (encM kI cT e1) = none := hF
            have im := im _ (by omega) h5 (by omega) he
            generalize dfsF f us (usAt us k) (aput k () e1) = e2 at *
            apply js
            conv => whnf
            refine Cond.tt (decT (by omega)) ?_
            (conv => whnf) <;> repeat' (first | ((conv => arg 1; whnf); rw [gi]; conv => whnf) | ((conv => arg 1; whnf); rw [hF]; conv => whnf) | (rw [hP]; conv => whnf) | (refine CalledH.mk [0, 1, 2, 3] _ _ rfl (Nat.le_refl _) hC ?_; conv => whnf) | ((first | refine wN ?_ | refine wNc ?_ | refine wA ?_ | refine wB ?_ | refine wC ?_ | refine wD ?_ | refine vA ?_ | refine vB ?_ | refine vC ?_ | refine vD ?_ | refine uA ?_ | refine uB ?_ | refine uC ?_ | refine uD ?_); conv => whnf) | ((first | apply Pick.dec | apply Pick.beq | apply Cond.dec | apply Cond.beq | apply Cond.nd | apply Pick.nd | apply Pick.mk | apply Cond.mk) <;> intro h <;> conv => whnf))
            rw [ee]
            apply jw [0, 1, 2, 3] [false, true, true, true, false, false, false, false, false, false, false, false, false, false, false, false, false, false, true, true, true] _ _ rfl
            exact im
      apply jw [0, 1, 2, 3] [false, true, true, true, false, false, false, false, false, false, false, false, false, false, false, false, false, false, true, true, true] _ _ rfl
      exact turn r.length 0 es (by omega) hs (Nat.le_refl _) heF
    · have e : usAt us m = [] := by
        unfold usAt
        split
        · rfl
        · rw [List.getD_eq_getElem?_getD, List.getElem?_eq_none (by omega)]; rfl
      rw [e]
      show Ret _ _ _ _ _ [_, _, _, setZ es]
      by_cases h0 : m < 0
      · refine ret_of_body atCalls tok mixed Try.func50 (by kernel_rfl) rfl (k := 34) (rs := []) (by kernel_rfl) (by kernel_rfl) ?_
        (conv => whnf) <;> repeat' (first | (rw [hul']; conv => whnf) | ((first | refine wN ?_ | refine wNc ?_ | refine wA ?_ | refine wB ?_ | refine wC ?_ | refine wD ?_ | refine vA ?_ | refine vB ?_ | refine vC ?_ | refine vD ?_ | refine uA ?_ | refine uB ?_ | refine uC ?_ | refine uD ?_); conv => whnf) | ((first | apply Pick.dec | apply Pick.beq | apply Cond.dec | apply Cond.beq | apply Cond.nd | apply Pick.nd | apply Pick.mk | apply Cond.mk) <;> intro h <;> conv => whnf))
        exact EndH.mk [0, 1, 2, 3] rfl rfl rfl
      · have h2 : (M : Int) ≤ m := by omega
        refine ret_of_body atCalls tok mixed Try.func50 (by kernel_rfl) rfl (k := 34) (rs := []) (by kernel_rfl) (by kernel_rfl) ?_
        (conv => whnf) <;> repeat' (first | (rw [hul']; conv => whnf) | ((first | refine wN ?_ | refine wNc ?_ | refine wA ?_ | refine wB ?_ | refine wC ?_ | refine wD ?_ | refine vA ?_ | refine vB ?_ | refine vC ?_ | refine vD ?_ | refine uA ?_ | refine uB ?_ | refine uC ?_ | refine uD ?_); conv => whnf) | ((first | apply Pick.dec | apply Pick.beq | apply Cond.dec | apply Cond.beq | apply Cond.nd | apply Pick.nd | apply Pick.mk | apply Cond.mk) <;> intro h <;> conv => whnf))
        exact EndH.mk [0, 1, 2, 3] rfl rfl rfl
end Go.Proofs.Ythjgnmpnagmeoaa

set_option linter.unusedVariables false
set_option linter.unusedSimpArgs false
set_option maxRecDepth 100000
namespace Go.Proofs.Ythjgnmpnagmeoaa
open Go.AM
set_option maxHeartbeats 4000000 in
theorem belowC : BelowC := by
  intro l hL n hn
  have hM := many_ret l hL.len hL.many
  have hG := graph_ret l hL
  have hgl := graphF_len l
  have hm := hL.many
  refine ret_of_holds tok Try.func27 (by kernel_rfl) rfl (k := 48) (rs := [.tmp 4]) (by kernel_rfl) (by kernel_rfl) ?_
  conv => whnf
  refine Holds.seq (.of_wp (R := atNone) tok mixed ?_)
  (conv => whnf) <;> repeat' (first | ((first | refine wN ?_ | refine wNc ?_ | refine wA ?_ | refine wB ?_ | refine wC ?_ | refine wD ?_ | refine vA ?_ | refine vB ?_ | refine vC ?_ | refine vD ?_ | refine uA ?_ | refine uB ?_ | refine uC ?_ | refine uD ?_); conv => whnf) | ((first | apply Pick.dec | apply Pick.beq | apply Cond.dec | apply Cond.beq | apply Cond.nd | apply Pick.nd | apply Pick.mk | apply Cond.mk) <;> intro h <;> conv => whnf))
  refine Holds.seq (.of_wp (R := atNone) tok mixed ?_)
  (conv => whnf) <;> repeat' (first | ((first | refine wN ?_ | refine wNc ?_ | refine wA ?_ | refine wB ?_ | refine wC ?_ | refine wD ?_ | refine Called.mk _ _ (hM) ?_ | refine vA ?_ | refine vB ?_ | refine vC ?_ | refine vD ?_ | refine uA ?_ | refine uB ?_ | refine uC ?_ | refine uD ?_); conv => whnf) | ((first | apply Pick.dec | apply Pick.beq | apply Cond.dec | apply Cond.beq | apply Cond.nd | apply Pick.nd | apply Pick.mk | apply Cond.mk) <;> intro h <;> conv => whnf))
  refine Holds.seq (Holds.seq (.of_wp (R := atNone) tok mixed ?_))
  (conv => whnf) <;> repeat' (first | ((first | refine wN ?_ | refine wNc ?_ | refine wA ?_ | refine wB ?_ | refine wC ?_ | refine wD ?_ | refine Called.mk _ _ (hG) ?_ | refine vA ?_ | refine vB ?_ | refine vC ?_ | refine vD ?_ | refine uA ?_ | refine uB ?_ | refine uC ?_ | refine uD ?_); conv => whnf) | ((first | apply Pick.dec | apply Pick.beq | apply Cond.dec | apply Cond.beq | apply Cond.nd | apply Pick.nd | apply Pick.mk | apply Cond.mk) <;> intro h <;> conv => whnf))
  have hgd := fun k (h : k < manyN l) => graphF_getD h
  have hnd := readsF_nodup l
  have hrl := fun k => readsF_len l k hL
  have hlt := fun (k x : Int) (h : x ∈ readsF l k) => readsF_lt h
  generalize hg : graphF l = g at *
  refine Holds.grid (M := manyN l) (s := 5) (tR := 34) (tI := 3) (us := usOf g) [false, true, false, false, false, true, false, false, false, false, false, false, false, false, false, false, true, true, true] (fun p => [.und, .int .i64 n, .und, .und, .und, .raw p, .und, .und, .und, .und, .und, .und, .und, .und, .und, .und, .und, .und, .und, .und, .und, .und, .und, .und, .und, .und, .und, .und, .und, .und, .und, .und, .und, .und, .und, .und, .und, .und, .und, .und, .und, .und, .und, .und, .und, .und, .und, .und]) [.und, .int .i64 n, .und, .und, .und, .ptr 0 0, .und, .und, .und, .und, .und, .und, .und, .und, .und, .und, .und, .und, .und, .und, .und, .und, .und, .und, .und, .und, .und, .und, .und, .und, .und, .und, .und, .und, .und, .und, .und, .und, .und, .und, .und, .und, .und, .und, .und, .und, .und, .und] ?_ (fun p => rfl) (fun p => rfl) ?_
  · intro w0 S φ0 g0
    rw [← hgl, ← usPre_zero g]
    refine HoldsG.block (HoldsG.loop (I := fun d us tm => ∃ k : Nat, k + d = g.length ∧ us = usPre g k [] ∧ tm = [.und, .int .i64 n, .und, .und, .und, .raw (Value.pointer (some ⟨g0, 0, none⟩)), .und, .und, .und, .und, .und, .und, .und, .und, .und, .und, eL 1 cRow g, .int .i64 (g.length : Int), .int .i64 (k : Int), .und, .und, .und, .und, .und, .und, .und, .und, .und, .und, .und, .und, .und, .und, .und, .und, .und, .und, .und, .und, .und, .und, .und, .und, .und, .und, .und, .und, .und]) ?_ g.length _ _ ⟨0, by omega, rfl, rfl⟩)
    rintro d us tm ⟨k, hk, rfl, rfl⟩
    cases d with
    | zero =>
      refine .of_wp (R := atNone) tok mixed [false, true, false, false, false, true] ?_
      conv => whnf
      refine Cond.ff (decF (by omega)) ?_
      conv => whnf
      refine ⟨rfl, ?_, rfl⟩
      rw [show k = g.length by omega, usPre_full]
    | succ d =>
      have hkl : k < g.length := by omega
      have gk : getL cRow g (Int.toNat (k : Int)) = cRow g[k] := by rw [Int.toNat_natCast]; exact getL_at (List.getElem?_eq_getElem hkl)
      have hrow : g[k] = readsF l (k : Int) := by rw [← hgd k (by omega), List.getD_eq_getElem?_getD, List.getElem?_eq_getElem hkl]; rfl
      have hnd := hnd (k : Int)
      have hrl := hrl (k : Int)
      have hlt := hlt (k : Int)
      rw [← hrow] at hnd hrl hlt
      have hnext : usPre g k g[k] = usPre g (k + 1) [] := by rw [← usPre_next, List.getD_eq_getElem?_getD, List.getElem?_eq_getElem hkl]; rfl
      generalize g[k] = row at *
      have ek : IntKind.i64.wrap ((k : Int) + 1) = ((k + 1 : Nat) : Int) := by rw [wi64_id (by omega) (by omega)]; omega
      refine .seq (.of_wp (R := atNone) tok mixed [false, true, false, false, false, true, false, false, false, false, false, false, false, false, false, false, true, true, true, true] ?_)
      conv => whnf
      refine .seq (.of_wp (R := atNone) tok mixed [false, true, false, false, false, true, false, false, false, false, false, false, false, false, false, false, true, true, true] ?_)
      conv => whnf
      refine Cond.tt (decT (by omega)) ?_
      conv => whnf
      refine .seq (.block (.seq (.of_wp (R := atNone) tok mixed [false, true, false, false, false, true, true, true, false, false, false, false, false, false, false, false, true, true, true] ?_)))
      (conv => whnf) <;> repeat' (first | ((conv => arg 1; whnf); rw [gk]; conv => whnf) | ((first | refine wN ?_ | refine wNc ?_ | refine wA ?_ | refine wB ?_ | refine wC ?_ | refine wD ?_ | refine vA ?_ | refine vB ?_ | refine vC ?_ | refine vD ?_ | refine uA ?_ | refine uB ?_ | refine uC ?_ | refine uD ?_); conv => whnf) | ((first | apply Pick.dec | apply Pick.beq | apply Cond.dec | apply Cond.beq | apply Cond.nd | apply Pick.nd | apply Pick.mk | apply Cond.mk) <;> intro h <;> conv => whnf))
      refine .seq (.of_wp (R := atNone) tok mixed [false, true, false, false, false, true, true, false, false, false, false, false, false, false, false, false, true, true, true, false, false, false, false, true, true, true] ?_)
      (conv => whnf) <;> repeat' (first | ((first | refine wN ?_ | refine wNc ?_ | refine wA ?_ | refine wB ?_ | refine wC ?_ | refine wD ?_ | refine vA ?_ | refine vB ?_ | refine vC ?_ | refine vD ?_ | refine uA ?_ | refine uB ?_ | refine uC ?_ | refine uD ?_); conv => whnf) | ((first | apply Pick.dec | apply Pick.beq | apply Cond.dec | apply Cond.beq | apply Cond.nd | apply Pick.nd | apply Pick.mk | apply Cond.mk) <;> intro h <;> conv => whnf))
      refine HoldsG.block (HoldsG.loop (I := fun d us tm => ∃ j : Nat, j + d = row.length ∧ us = usPre g k (row.take j) ∧ tm = [.und, .int .i64 n, .und, .und, .und, .raw (Value.pointer (some ⟨g0, 0, none⟩)), .int .i64 (k : Int), .und, .und, .und, .und, .und, .und, .und, .und, .und, eL 1 cRow g, .int .i64 (g.length : Int), .int .i64 (k : Int), .und, .und, .und, .und, eL 1 cI row, .int .i64 (row.length : Int), .int .i64 (j : Int), .und, .und, .und, .und, .und, .und, .und, .und, .und, .und, .und, .und, .und, .und, .und, .und, .und, .und, .und, .und, .und, .und]) ?_ row.length _ _ ⟨0, by omega, rfl, rfl⟩)
      rintro e us tm ⟨j, hj, rfl, rfl⟩
      cases e with
      | zero =>
        refine .of_wp (R := atNone) tok mixed [false, true, false, false, false, true, false, false, false, false, false, false, false, false, false, false, true, true, true] ?_
        conv => whnf
        refine Cond.ff (decF (by omega)) ?_
        conv => whnf
        refine .of_wp (R := atNone) tok mixed [false, true, false, false, false, true, false, false, false, false, false, false, false, false, false, false, true, true, true] ?_
        conv => whnf
        rw [ek]
        refine ⟨d, by omega, k + 1, by omega, ?_, rfl⟩
        rw [List.take_of_length_le (by omega), hnext]
      | succ e =>
        have hjl : j < row.length := by omega
        have gj : getL cI row (Int.toNat (j : Int)) = cI row[j] := by rw [Int.toNat_natCast]; exact getL_at (List.getElem?_eq_getElem hjl)
        have ej : IntKind.i64.wrap ((j : Int) + 1) = ((j + 1 : Nat) : Int) := by rw [wi64_id (by omega) (by omega)]; omega
        have hx := hlt row[j] (List.getElem_mem hjl)
        have hnot : row[j] ∉ row.take j := fun hin => by
          obtain ⟨i, hi, e9⟩ := List.mem_iff_getElem.1 hin
          rw [List.length_take] at hi
          rw [List.getElem_take] at e9
          exact List.pairwise_iff_getElem.1 (List.nodup_iff_pairwise_ne.1 hnd) i j (by omega) hjl (by omega) e9
        have htk : row.take j ++ [row[j]] = row.take (j + 1) := List.take_append_getElem hjl
        generalize row[j] = x at *
        refine .seq (.of_wp (R := atNone) tok mixed [false, true, false, false, false, true, true, false, false, false, false, false, false, false, false, false, true, true, true, false, false, false, false, true, true, true, true] ?_)
        conv => whnf
        refine .seq (.of_wp (R := atNone) tok mixed [false, true, false, false, false, true, true, false, false, false, false, false, false, false, false, false, true, true, true, false, false, false, false, true, true, true] ?_)
        conv => whnf
        refine Cond.tt (decT (by omega)) ?_
        conv => whnf
        refine .seq (.block (.seq (.of_wp (R := atNone) tok mixed [false, true, false, false, false, true, true, false, false, true, false, false, false, false, false, false, true, true, true, false, false, false, false, true, true, true] ?_)))
        (conv => whnf) <;> repeat' (first | ((conv => arg 1; whnf); rw [gj]; conv => whnf) | ((first | refine wN ?_ | refine wNc ?_ | refine wA ?_ | refine wB ?_ | refine wC ?_ | refine wD ?_ | refine vA ?_ | refine vB ?_ | refine vC ?_ | refine vD ?_ | refine uA ?_ | refine uB ?_ | refine uC ?_ | refine uD ?_); conv => whnf) | ((first | apply Pick.dec | apply Pick.beq | apply Cond.dec | apply Cond.beq | apply Cond.nd | apply Pick.nd | apply Pick.mk | apply Cond.mk) <;> intro h <;> conv => whnf))
        have hul := usPre_len g k (row.take j)
        have hput := usPre_put (g := g) (k := k) hx.1 (by omega) hnot
        have hrw := usPre_row (g := g) (k := k) (pre := row.take j) (r := x.toNat) (by omega)
        generalize usPre g k (row.take j) = us at *
        refine HoldsG.mono (HoldsG.grow (R := atNone) (r := x.toNat) (s := 5) (k := (k : Int)) (tmX := fun p => [.und, .int .i64 n, .und, .und, .und, .raw p, .int .i64 (k : Int), .und, .und, .und, .und, .und, .und, .und, .und, .und, eL 1 cRow g, .int .i64 (g.length : Int), .int .i64 (k : Int), .und, .und, .und, .und, eL 1 cI row, .int .i64 (row.length : Int), .int .i64 (j : Int), .und, .und, .und, .und, .und, .und, .und, .und, .und, .und, .und, .und, .und, .und, .und, .und, .und, .und, .und, .und, .und, .und]) tok mixed (by omega) [false, true, false, false, false, true, true, false, false, false, false, false, false, false, false, false, true, true, true, false, false, false, false, true, true, true] rfl ?_ ?_) ?_
        · intro he cs hcl hc
          have hc' : ∀ y, y = x.toNat → cellAt cs y = .nils := fun y e => by rw [e]; exact hc
          (conv => whnf) <;> repeat' (first | ((conv => arg 1; whnf); rw [hc' _ (by omega)]; conv => whnf) | ((first | refine wN ?_ | refine wNc ?_ | refine wA ?_ | refine wB ?_ | refine wC ?_ | refine wD ?_ | refine vA ?_ | refine vB ?_ | refine vC ?_ | refine vD ?_ | refine uA ?_ | refine uB ?_ | refine uC ?_ | refine uD ?_); conv => whnf) | ((first | apply Pick.dec | apply Pick.beq | apply Cond.dec | apply Cond.beq | apply Cond.nd | apply Pick.nd | apply Pick.mk | apply Cond.mk) <;> intro h <;> conv => whnf))
          refine ⟨rfl, fun p => rfl, rfl, 3, ?_, ?_⟩
          · rw [he]
            show Blk.cells (putAt cs (x.toNat * 1 + 0) _) = _
            rw [Nat.mul_one, Nat.add_zero]; rfl
          · rw [he]
            show Blk.row _ 1 1 (fun i => (pieces 1 1 [Val.int .i64 (k : Int)]).getD i []) 0 = _
            rw [getI_one]; rfl
        · intro he cs hcl hc
          have hc' : ∀ y, y = x.toNat → cellAt cs y = .row 2 (us.getD x.toNat []).length := fun y e => by rw [e]; exact hc
          generalize hu : us.getD x.toNat [] = u at *
          (conv => whnf) <;> repeat' (first | ((conv => arg 1; whnf); rw [hc' _ (by omega)]; conv => whnf) | ((first | refine wN ?_ | refine wNc ?_ | refine wA ?_ | refine wB ?_ | refine wC ?_ | refine wD ?_ | refine vA ?_ | refine vB ?_ | refine vC ?_ | refine vD ?_ | refine uA ?_ | refine uB ?_ | refine uC ?_ | refine uD ?_); conv => whnf) | ((first | apply Pick.dec | apply Pick.beq | apply Cond.dec | apply Cond.beq | apply Cond.nd | apply Pick.nd | apply Pick.mk | apply Cond.mk) <;> intro h <;> conv => whnf))
          refine ⟨rfl, fun p => rfl, rfl, 4, ?_, ?_⟩
          · rw [hu]
            show Blk.cells (putAt cs (x.toNat * 1 + 0) _) = _
            rw [Nat.mul_one, Nat.add_zero]
          · rw [hu]
            show Blk.row _ 1 (u.length + 1) (fun i => if i < u.length then getL cI u i else (pieces 1 1 [Val.int .i64 (k : Int)]).getD (i - u.length) []) 0 = _
            rw [getI_snoc]
        · rintro e2 us2 tm2 ⟨rfl, rfl, rfl⟩
          refine .of_wp (R := atNone) tok mixed [false, true, false, false, false, true, true, false, false, false, false, false, false, false, false, false, true, true, true, false, false, false, false, true, true, true] ?_
          conv => whnf
          rw [ej]
          refine ⟨e, by omega, j + 1, by omega, ?_, rfl⟩
          rw [hput, htk]
  · conv => whnf
    have hus : (usOf g).length = manyN l := by rw [usOf_len, hgl]
    obtain ⟨hs1, hs2⟩ := dfs_below g n
    rw [hgl] at hs1 hs2
    have hC := bwalk_ret (usOf g) (manyN l) hm hus (fun r hr j hj => by have := usOf_rng g r hr j hj; rwa [hgl] at this) (fun r hr => by have := usOf_row g r hr; omega) (manyN l + 1) [] n ⟨by simp [keysZ], fun k hk => absurd hk (by simp [keysZ])⟩ (by simp)
    rw [← hs2]
    have hS := rsorted_ret (dfsF (manyN l + 1) (usOf g) (usAt (usOf g) n) []) hs1.nd (fun k hk => by have := hs1.lt k hk; omega)
    generalize dfsF (manyN l + 1) (usOf g) (usAt (usOf g) n) [] = es at *
    refine .of_wp (R := atNone) tok mixed ?_
    (conv => whnf) <;> repeat' (first | (refine CalledH.mk [0, 2, 3, 1] _ _ rfl (Nat.le_refl _) hC ?_; conv => whnf) | (refine CalledH.mk [1] _ _ rfl (Nat.le_refl _) hS ?_; conv => whnf) | ((first | refine wN ?_ | refine wNc ?_ | refine wA ?_ | refine wB ?_ | refine wC ?_ | refine wD ?_ | refine vA ?_ | refine vB ?_ | refine vC ?_ | refine vD ?_ | refine uA ?_ | refine uB ?_ | refine uC ?_ | refine uD ?_); conv => whnf) | ((first | apply Pick.dec | apply Pick.beq | apply Cond.dec | apply Cond.beq | apply Cond.nd | apply Pick.nd | apply Pick.mk | apply Cond.mk) <;> intro h <;> conv => whnf))
    exact End.mk rfl rfl
end Go.Proofs.Ythjgnmpnagmeoaa

