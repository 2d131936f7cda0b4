/- lex.Quote, strings.Repeat: contracts; exciseref07.Quote. -/
import Derived.Test.YtdpnhedbggnhiaaGreatAmQt1
import Derived.Test.YtdpnhedbggnhiaaGreatAmTxt2
import Derived.Test.YtdpnhedbggnhiaaGreatAmPure
import Derived.Shelf.Strings.Repeat
set_option linter.unusedVariables false
set_option linter.unusedSimpArgs false
set_option maxRecDepth 100000
namespace Go.Proofs
open Go.Shelf
shelf_lay Lays.n105 Nm 105 at Tryz as Tryz.lays105
theorem Tryz.Builder_Extra_105 : Builder.Extra Tryz.prog Tryz.lays105_ren where
  sizeBuilder := by kernel_rfl
  liesBuilder := by kernel_rfl
  t5 := Tryz.underlying5
  a5 := Tryz.isAgg5
  z5 := Tryz.sizeOf5
  v5 := Tryz.zeroValue5
  infoByte := by kernel_rfl
  cellsByte := by kernel_rfl
  sizeByte := by kernel_rfl
  neB5 := by decide
end Go.Proofs
namespace Go.Proofs.YtdpnhedbggnhiaaGreat
open Go.AM Go.RowKit
theorem repeat_ret (c : Nat) (hc : c ≤ 1000) : Ret Tryz.prog 51 [.str ⟨#[48]⟩, .int .i64 (c : Int)] [] (.str (zs c)) [] := by
  refine Ret.of_calls ⟨_, _, Tryz.func51, by kernel_rfl, rfl⟩ args_str_int (fun _ _ => .c (.str _)) (cv := .string (zs c)) fun w => ?_
  have h : Calls Tryz.prog 51 #[.string ⟨#[48]⟩, .int .i64 (c : Int)] w fun e w' => e = .returned (.string ⟨(Lib.repeatL (⟨#[48]⟩ : ByteArray).data.toList c).toArray⟩) ∧ Below w.heap.size w w' :=
    Any.strings_Repeat Tryz.lays105 Tryz.Builder_Extra_105 ⟨#[48]⟩ c w (by omega) (by show 1 * c ≤ _; omega)
  refine h.mono fun e w' ⟨he, hb⟩ => ⟨?_, hb⟩
  rw [he]
  have : Lib.repeatL (⟨#[48]⟩ : ByteArray).data.toList c = List.replicate c 48 := repeat_zs c
  rw [this]; rfl
theorem quote_ret (s : ByteArray) (hs : s.size ≤ 1048576) : Ret Tryz.prog 35 [.str s] [] (.str ⟨(quoL s.data.toList).toArray⟩) [] :=
  Ret.of_calls ⟨_, _, Tryz.func35, by kernel_rfl, rfl⟩ args_str (fun _ _ => .c (.str _)) (cv := .string ⟨(quoL s.data.toList).toArray⟩) fun w => Tryz.quote_walk s w hs
set_option maxHeartbeats 8000000 in
theorem rquote_ret (s : ByteArray) (hs : s.size ≤ 1048576) : Ret Tryz.prog 39 [.str s] [] (.str ⟨(quoL s.data.toList).toArray⟩) [] := by
  have hsz : s.data.toList.length = s.size := Array.length_toList
  refine ret_of_body atNone tok mixed Tryz.func39 (by kernel_rfl) rfl (k := 51) (rs := [.tmp 2]) (by kernel_rfl) (by kernel_rfl) ?_
  (conv => whnf) <;> repeat' (first | ((first | refine wN ?_ | refine wA ?_ | refine wB ?_ | refine wC ?_ | refine wD ?_ | refine vA ?_ | refine vB ?_ | refine vC ?_ | refine vD ?_ | refine uA ?_ | refine uB ?_ | refine uC ?_ | refine uD ?_); conv => whnf) | ((first | apply Pick.dec | apply Pick.beq | apply Cond.dec | apply Cond.beq | apply Cond.nd | apply Pick.nd | apply Pick.mk | apply Cond.mk) <;> intro h <;> conv => whnf))
  intro I hw hs2
  have turn : ∀ (d k : Nat), k + d = s.size → I [.str s, .und, .und, .row 0 (intsB (34 :: (s.data.toList.take k).flatMap quo1)).length, .int .i64 (k : Int), .und, .und, .und, .und, .und, .und, .und, .und, .und, .und, .und, .und, .und, .und, .und, .und, .und, .und, .und, .und, .und, .und, .und, .und, .und, .und, .und, .und, .und, .und, .und, .und, .und, .und, .und, .und, .und, .und, .und, .und, .und, .und, .und, .und, .und, .und] [.row 5 1 (intsB (34 :: (s.data.toList.take k).flatMap quo1)).length (gl (intsB (34 :: (s.data.toList.take k).flatMap quo1))) 0] := by
    intro d
    induction d with
    | zero =>
      intro k hk
      obtain rfl : k = s.size := by omega
      apply hs2
      conv => whnf
      refine Cond.ff (decF (by omega)) ?_
      rw [List.take_of_length_le (by omega)] at *
      have hl := quoL_len s.data.toList
      have hlen2 : (intsB (34 :: s.data.toList.flatMap quo1)).length ≤ 4194305 := by rw [intsB_len, List.length_cons]; omega
      have hfin : byteList (intsB (34 :: s.data.toList.flatMap quo1) ++ [34]) = ⟨(quoL s.data.toList).toArray⟩ := intsB_list (quoL s.data.toList) ▸ (by
        show byteList _ = byteList (intsB (34 :: s.data.toList.flatMap quo1 ++ [34]))
        rw [intsB_app]; rfl)
      generalize intsB (34 :: s.data.toList.flatMap quo1) = A at *
      have hstr : bytesStr (A.length + 1) (gl (A ++ [34])) = ⟨(quoL s.data.toList).toArray⟩ := by
        rw [← hfin, ← gl_str, List.length_append]; rfl
      (conv => whnf) <;> repeat' (first | (rw [gl_append]; conv => whnf) | (rw [hstr]; conv => whnf) | (refine Need.mk ⟨Nat.le_refl _, fun i hi => gl_byte i (by rw [List.length_append]; exact hi)⟩ ?_; conv => whnf) | ((first | refine wN ?_ | refine wA ?_ | refine wB ?_ | refine wC ?_ | refine wD ?_ | refine vA ?_ | refine vB ?_ | refine vC ?_ | refine vD ?_ | refine uA ?_ | refine uB ?_ | refine uC ?_ | refine uD ?_); conv => whnf) | ((first | apply Pick.dec | apply Pick.beq | apply Cond.dec | apply Cond.beq | apply Cond.nd | apply Pick.nd | apply Pick.mk | apply Cond.mk) <;> intro h <;> conv => whnf))
      exact End.mk rfl rfl
    | succ d im =>
      intro k hk
      have hks : k < s.data.toList.length := by omega
      have hb : s.data.toList[k]? = some s.data.toList[k] := List.getElem?_eq_getElem hks
      have hbt := bt_at hb
      have hnext := take_quo hb
      have nxt := im (k + 1) (by omega)
      rw [hnext] at nxt
      have e2 : IntKind.i64.wrap ((k : Int) + 1) = ((k + 1 : Nat) : Int) := by rw [wi64_id (by omega) (by omega)]; omega
      generalize s.data.toList[k] = c at *
      have hc255 : c.toNat < 256 := c.toNat_lt
      have hlen : ((s.data.toList.take k).flatMap quo1).length ≤ 4194304 := by
        have h1 := quoL_len (s.data.toList.take k)
        rw [List.length_take] at h1
        omega
      generalize (s.data.toList.take k).flatMap quo1 = l at *
      have hlen2 : (intsB (34 :: l)).length ≤ 4194305 := by rw [intsB_len, List.length_cons]; omega
      have happ : intsB (34 :: (l ++ quo1 c)) = intsB (34 :: l) ++ intsB (quo1 c) := intsB_app (34 :: l) (quo1 c)
      rw [happ, List.length_append] at nxt
      generalize intsB (34 :: l) = A at *
      apply hs2
      conv => whnf
      refine Cond.tt (decT (by omega)) ?_
      by_cases c2 : c.toNat = 34 ∨ c.toNat = 92
      · have hq : quo1 c = [92, c] := (if_neg (by omega)).trans (if_pos c2)
        rw [hq] at nxt
        by_cases i3 : bt s (k : Int) = 34
        all_goals
          (conv => whnf) <;> repeat' (first | (rw [gl_two]; conv => whnf) | ((first | refine wN ?_ | refine wA ?_ | refine wB ?_ | refine wC ?_ | refine wD ?_ | refine vA ?_ | refine vB ?_ | refine vC ?_ | refine vD ?_ | refine uA ?_ | refine uB ?_ | refine uC ?_ | refine uD ?_); conv => whnf) | ((first | apply Pick.dec | apply Pick.beq | apply Cond.dec | apply Cond.beq | apply Cond.nd | apply Pick.nd | apply Pick.mk | apply Cond.mk) <;> intro h <;> conv => whnf))
          rw [e2, hbt]
          apply hw [2] [true, false, false, true, true] _ _ rfl
          exact nxt
      by_cases c1 : c.toNat < 32 ∨ 126 < c.toNat
      · have hq : quo1 c = [92, 120, hexD (c.toNat / 16), hexD (c.toNat % 16)] := if_pos c1
        rw [hq] at nxt
        have h1 := byte_hi hbt hc255
        have h2 := byte_lo hbt
        have h3 := hexB_at (n := c.toNat / 16) (by omega)
        have h4 := hexB_at (n := c.toNat % 16) (by omega)
        unfold hexB at h3 h4
        have i3 : ¬ bt s (k : Int) = 34 := by omega
        have i4 : ¬ bt s (k : Int) = 92 := by omega
        have j1 : (0 : Int) ≤ ((c.toNat / 16 : Nat) : Int) ∧ ((c.toNat / 16 : Nat) : Int) < 16 := by omega
        have j2 : (0 : Int) ≤ ((c.toNat % 16 : Nat) : Int) ∧ ((c.toNat % 16 : Nat) : Int) < 16 := by omega
        by_cases i1 : bt s (k : Int) < 32
        all_goals
          (conv => whnf) <;> repeat' (first | (rw [h1]; conv => whnf) | (rw [h2]; conv => whnf) | (rw [h3]; conv => whnf) | (rw [h4]; conv => whnf) | (refine Need.mk j1 ?_; conv => whnf) | (refine Need.mk j2 ?_; conv => whnf) | (rw [gl_four]; conv => whnf) | ((first | refine wN ?_ | refine wA ?_ | refine wB ?_ | refine wC ?_ | refine wD ?_ | refine vA ?_ | refine vB ?_ | refine vC ?_ | refine vD ?_ | refine uA ?_ | refine uB ?_ | refine uC ?_ | refine uD ?_); conv => whnf) | ((first | apply Pick.dec | apply Pick.beq | apply Cond.dec | apply Cond.beq | apply Cond.nd | apply Pick.nd | apply Pick.mk | apply Cond.mk) <;> intro h <;> conv => whnf))
          rw [e2]
          apply hw [2] [true, false, false, true, true] _ _ rfl
          exact nxt
      · have hq : quo1 c = [c] := (if_neg c1).trans (if_neg c2)
        rw [hq] at nxt
        have i3 : ¬ bt s (k : Int) = 34 := by omega
        have i4 : ¬ bt s (k : Int) = 92 := by omega
        have i5 : ¬ bt s (k : Int) < 32 := by omega
        have i6 : ¬ bt s (k : Int) > 126 := by omega
        (conv => whnf) <;> repeat' (first | (rw [gl_append]; conv => whnf) | ((first | refine wN ?_ | refine wA ?_ | refine wB ?_ | refine wC ?_ | refine wD ?_ | refine vA ?_ | refine vB ?_ | refine vC ?_ | refine vD ?_ | refine uA ?_ | refine uB ?_ | refine uC ?_ | refine uD ?_); conv => whnf) | ((first | apply Pick.dec | apply Pick.beq | apply Cond.dec | apply Cond.beq | apply Cond.nd | apply Pick.nd | apply Pick.mk | apply Cond.mk) <;> intro h <;> conv => whnf))
        rw [e2, hbt]
        apply hw [2] [true, false, false, true, true] _ _ rfl
        exact nxt
  rw [gl_one]
  apply hw [0] [true, false, false, true, true] _ _ rfl
  exact turn s.size 0 (by omega)
end Go.Proofs.YtdpnhedbggnhiaaGreat

