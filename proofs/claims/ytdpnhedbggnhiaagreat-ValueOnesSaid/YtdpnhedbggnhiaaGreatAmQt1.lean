/- lex.Quote. -/
import Derived.Test.YtdpnhedbggnhiaaGreatAmQt0
set_option linter.unusedVariables false
set_option linter.unusedSimpArgs false
set_option maxRecDepth 100000
namespace Go.Proofs
open Go.RowKit Go.AM
theorem Tryz.hex_at (n : Nat) (h : n < 16) (h2 : n < (⟨#[48, 49, 50, 51, 52, 53, 54, 55, 56, 57, 97, 98, 99, 100, 101, 102]⟩ : ByteArray).size) : (⟨#[48, 49, 50, 51, 52, 53, 54, 55, 56, 57, 97, 98, 99, 100, 101, 102]⟩ : ByteArray)[n] = hexD n := by
  have : ∀ k : Fin 16, (⟨#[48, 49, 50, 51, 52, 53, 54, 55, 56, 57, 97, 98, 99, 100, 101, 102]⟩ : ByteArray)[k.val]'(by show k.val < 16; exact k.isLt) = hexD k.val := by decide
  exact this ⟨n, h⟩
set_option maxHeartbeats 4000000 in
set_option maxRecDepth 1000000 in
theorem Tryz.quote_walk (s : ByteArray) (w : World) (hs : s.size ≤ 1048576) :
    Calls Tryz.prog 35 #[.string s] w fun e w' => e = .returned (.string ⟨(quoL s.data.toList).toArray⟩) ∧ Below w.heap.size w w' := by
  have h0 : Lib.IsBuilder 70 5 w.heap.size w.heap.size [] (w.alloc (.cells #[.pointer none, .slice none 0 0] 70)) := Lib.fresh_isBuilder 70 5 w
  have b0 : Below w.heap.size w (w.alloc (.cells #[.pointer none, .slice none 0 0] 70)) := (Below.refl _ w).alloc (Nat.le_refl _) _
  go_enter Tryz.func35, Tryz.ntmps35
  go_wp2_with (go_at_call 52; refine (Tryz.bldByte w.heap.size w.heap.size [] 34 _ h0 (by simp) b0.size).mono ?_)
  rintro e W1 ⟨rfl, h1, b1⟩
  have h1' : Lib.IsBuilder 70 5 w.heap.size w.heap.size (Lib.byteCells (34 :: (s.data.toList.take 0).flatMap quo1)) W1 := Or.inr (by simpa [Lib.byteCells] using h1)
  have hb01 := b0.trans b1
  clear h1 b1 b0 h0
  go_wp2
  go_loopw [9] (fun i wr => ∃ k : Nat, k ≤ s.size ∧ i = .int .i64 k ∧ Lib.IsBuilder 70 5 w.heap.size w.heap.size (Lib.byteCells (34 :: (s.data.toList.take k).flatMap quo1)) wr ∧ Below w.heap.size w wr) (fun i _ => s.size - (intOf i).toNat)
  case atStart => exact ⟨0, Nat.zero_le _, rfl, h1', hb01⟩
  case round =>
    obtain ⟨k, hk, rfl, HI, HW⟩ := hrel
    by_cases hlt : k < s.size
    · have hb : s.data.toList[k]? = some (s[k]'hlt) := by
        rw [Array.getElem?_toList]
        exact Array.getElem?_eq_getElem hlt
      have hnext := take_quo hb
      have hlen : ((s.data.toList.take k).flatMap quo1).length ≤ 4194304 := by
        have h1 := quoL_len (s.data.toList.take k)
        rw [List.length_take, ← Lib.size_eq] at h1
        omega
      generalize hc : s[k]'hlt = c at *
      have hc255 : c.toNat < 256 := c.toNat_lt
      have hB : (Lib.byteCells (34 :: (s.data.toList.take k).flatMap quo1)).length ≤ 5000000 := by
        rw [Lib.byteCells_length, List.length_cons]; omega
      by_cases c1 : c.toNat < 32 ∨ 126 < c.toNat
      · have hq : quo1 c = [92, 120, hexD (c.toNat / 16), hexD (c.toNat % 16)] := if_pos c1
        have hS : (Lib.byteCells (34 :: (s.data.toList.take k).flatMap quo1)).length + (⟨#[92, 120]⟩ : ByteArray).size ≤ 140737488355328 := by
          rw [show (⟨#[92, 120]⟩ : ByteArray).size = 2 from rfl]; omega
        by_cases i1 : (c.toNat : Int) < 32
        ·
          go_wp2_with (go_at_call 53; refine (Tryz.bldString w.heap.size w.heap.size _ _ _ HI hS HW.size).mono ?_)
          first | rintro e W2 rfl h2 b2 | rintro e W2 ⟨rfl, h2, b2⟩
          have hS2 : (Lib.byteCells (34 :: (s.data.toList.take k).flatMap quo1) ++ Lib.strCells ⟨#[92, 120]⟩).length ≤ 5000002 := by
            rw [List.length_append]
            have : (Lib.strCells ⟨#[92, 120]⟩).length = 2 := rfl
            omega
          go_wp2_with (go_at_call 52; refine (Tryz.bldByte w.heap.size w.heap.size _ _ _ (Or.inr h2) (by omega) (Nat.le_trans HW.size b2.size)).mono ?_)
          first | rintro e W3 rfl h3 b3 | rintro e W3 ⟨rfl, h3, b3⟩
          have hS3 := hS2
          go_wp2_with (go_at_call 52; refine (Tryz.bldByte w.heap.size w.heap.size _ _ _ (Or.inr h3) (by rw [List.length_append]; simp only [List.length_cons, List.length_nil]; omega) (Nat.le_trans HW.size (Nat.le_trans b2.size b3.size))).mono ?_)
          first | rintro e W4 rfl h4 b4 | rintro e W4 ⟨rfl, h4, b4⟩
          go_wp2
          go_roundw
          case rel =>
            refine ⟨k + 1, by omega, rfl, ?_, HW.trans (b2.trans (b3.trans b4))⟩
            rw [hnext, hq]
            refine Or.inr ?_
            have e1 := Tryz.hex_at (c.toNat / 16) (by omega) (by show c.toNat / 16 < 16; omega)
            have e2 := Tryz.hex_at (c.toNat % 16) (by omega) (by show c.toNat % 16 < 16; omega)
            rw [e1, e2] at h4
            have e3 : Lib.strCells ⟨#[92, 120]⟩ = [.int .u8 92, .int .u8 120] := rfl
            rw [e3] at h4
            simpa [Lib.byteCells] using h4
          case measure => simp [intOf]; omega
        ·
          have i2 : (126 : Int) < (c.toNat : Int) := by omega
          go_wp2_with (go_at_call 53; refine (Tryz.bldString w.heap.size w.heap.size _ _ _ HI hS HW.size).mono ?_)
          first | rintro e W2 rfl h2 b2 | rintro e W2 ⟨rfl, h2, b2⟩
          have hS2 : (Lib.byteCells (34 :: (s.data.toList.take k).flatMap quo1) ++ Lib.strCells ⟨#[92, 120]⟩).length ≤ 5000002 := by
            rw [List.length_append]
            have : (Lib.strCells ⟨#[92, 120]⟩).length = 2 := rfl
            omega
          go_wp2_with (go_at_call 52; refine (Tryz.bldByte w.heap.size w.heap.size _ _ _ (Or.inr h2) (by omega) (Nat.le_trans HW.size b2.size)).mono ?_)
          first | rintro e W3 rfl h3 b3 | rintro e W3 ⟨rfl, h3, b3⟩
          have hS3 := hS2
          go_wp2_with (go_at_call 52; refine (Tryz.bldByte w.heap.size w.heap.size _ _ _ (Or.inr h3) (by rw [List.length_append]; simp only [List.length_cons, List.length_nil]; omega) (Nat.le_trans HW.size (Nat.le_trans b2.size b3.size))).mono ?_)
          first | rintro e W4 rfl h4 b4 | rintro e W4 ⟨rfl, h4, b4⟩
          go_wp2
          go_roundw
          case rel =>
            refine ⟨k + 1, by omega, rfl, ?_, HW.trans (b2.trans (b3.trans b4))⟩
            rw [hnext, hq]
            refine Or.inr ?_
            have e1 := Tryz.hex_at (c.toNat / 16) (by omega) (by show c.toNat / 16 < 16; omega)
            have e2 := Tryz.hex_at (c.toNat % 16) (by omega) (by show c.toNat % 16 < 16; omega)
            rw [e1, e2] at h4
            have e3 : Lib.strCells ⟨#[92, 120]⟩ = [.int .u8 92, .int .u8 120] := rfl
            rw [e3] at h4
            simpa [Lib.byteCells] using h4
          case measure => simp [intOf]; omega
      by_cases c2 : c.toNat = 34 ∨ c.toNat = 92
      · have hq : quo1 c = [92, c] := (if_neg c1).trans (if_pos c2)
        have i1 : ¬ ((c.toNat : Int) < 32) := by omega
        have i2 : ¬ ((126 : Int) < (c.toNat : Int)) := by omega
        have i5 : ((c.toNat : Int) == 34 || (c.toNat : Int) == 92) = true := by simp; omega
        by_cases i3 : (c.toNat : Int) = 34
        ·
          go_wp2_with (go_at_call 52; refine (Tryz.bldByte w.heap.size w.heap.size _ _ _ HI (by omega) HW.size).mono ?_)
          first | rintro e W2 rfl h2 b2 | rintro e W2 ⟨rfl, h2, b2⟩
          go_wp2_with (go_at_call 52; refine (Tryz.bldByte w.heap.size w.heap.size _ _ _ (Or.inr h2) (by rw [List.length_append]; simp only [List.length_cons, List.length_nil]; omega) (Nat.le_trans HW.size b2.size)).mono ?_)
          first | rintro e W3 rfl h3 b3 | rintro e W3 ⟨rfl, h3, b3⟩
          go_wp2
          go_roundw
          case rel =>
            refine ⟨k + 1, by omega, rfl, ?_, HW.trans (b2.trans b3)⟩
            rw [hnext, hq]
            refine Or.inr ?_
            simpa [Lib.byteCells, i3] using h3
          case measure => simp [intOf]; omega
        ·
          have i4 : (c.toNat : Int) = 92 := by omega
          go_wp2_with (go_at_call 52; refine (Tryz.bldByte w.heap.size w.heap.size _ _ _ HI (by omega) HW.size).mono ?_)
          first | rintro e W2 rfl h2 b2 | rintro e W2 ⟨rfl, h2, b2⟩
          go_wp2_with (go_at_call 52; refine (Tryz.bldByte w.heap.size w.heap.size _ _ _ (Or.inr h2) (by rw [List.length_append]; simp only [List.length_cons, List.length_nil]; omega) (Nat.le_trans HW.size b2.size)).mono ?_)
          first | rintro e W3 rfl h3 b3 | rintro e W3 ⟨rfl, h3, b3⟩
          go_wp2
          go_roundw
          case rel =>
            refine ⟨k + 1, by omega, rfl, ?_, HW.trans (b2.trans b3)⟩
            rw [hnext, hq]
            refine Or.inr ?_
            simpa [Lib.byteCells, i4] using h3
          case measure => simp [intOf]; omega
      · have hq : quo1 c = [c] := (if_neg c1).trans (if_neg c2)
        have i1 : ¬ ((c.toNat : Int) < 32) := by omega
        have i2 : ¬ ((126 : Int) < (c.toNat : Int)) := by omega
        have i3 : ¬ ((c.toNat : Int) = 34) := by omega
        have i4 : ¬ ((c.toNat : Int) = 92) := by omega
        have i5 : ((c.toNat : Int) == 34 || (c.toNat : Int) == 92) = false := by simp; omega
        go_wp2_with (go_at_call 52; refine (Tryz.bldByte w.heap.size w.heap.size _ _ _ HI (by omega) HW.size).mono ?_)
        first | rintro e W2 rfl h2 b2 | rintro e W2 ⟨rfl, h2, b2⟩
        go_wp2
        go_roundw
        case rel =>
          refine ⟨k + 1, by omega, rfl, ?_, HW.trans b2⟩
          rw [hnext, hq]
          refine Or.inr ?_
          simpa [Lib.byteCells] using h2
        case measure => simp [intOf]; omega
    · have hke : k = s.size := by omega
      subst hke
      have hall : s.data.toList.take s.size = s.data.toList := by rw [Lib.size_eq, List.take_length]
      rw [hall] at HI
      have hl := quoL_len s.data.toList
      rw [← Lib.size_eq] at hl
      go_wp2_with (go_at_call 52; refine (Tryz.bldByte w.heap.size w.heap.size _ 34 _ HI (by rw [Lib.byteCells_length, List.length_cons]; omega) HW.size).mono ?_)
      rintro e W2 ⟨rfl, h2, b2⟩
      have h2' : Lib.IsBuilder 70 5 w.heap.size w.heap.size (Lib.byteCells (quoL s.data.toList)) W2 := Or.inr (by simpa [Lib.byteCells, quoL] using h2)
      go_wp2_with (go_at_call 54; refine (Tryz.bldText w.heap.size w.heap.size _ _ h2' (Nat.le_trans HW.size b2.size)).mono ?_)
      rintro e W3 ⟨rfl, b3⟩
      go_wp2
      go_ret
      exact ⟨rfl, HW.trans (b2.trans b3)⟩
end Go.Proofs

