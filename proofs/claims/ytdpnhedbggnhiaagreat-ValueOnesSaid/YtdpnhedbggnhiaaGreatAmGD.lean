/- limb and exciseref01: Parse. -/
import Derived.Test.YtdpnhedbggnhiaaGreatAmGE
import Derived.Test.YtdpnhedbggnhiaaGreatAmGL
set_option linter.unusedVariables false
set_option linter.unusedSimpArgs false
set_option maxRecDepth 100000
namespace Go.Proofs.YtdpnhedbggnhiaaGreat
open Go.AM
end Go.Proofs.YtdpnhedbggnhiaaGreat

set_option linter.unusedVariables false
set_option linter.unusedSimpArgs false
set_option maxRecDepth 100000
namespace Go.Proofs.YtdpnhedbggnhiaaGreat
open Go.AM
theorem byte48 (b : N) : IntKind.u8.wrap (IntKind.u64.wrap (48 + b.v % 10)) = 48 + ((b.v.toNat % 10 : Nat) : Int) := by
  have := b.h.1
  rw [w64_id (by omega) (by omega), wrap8_id (by omega) (by omega)]; omega
theorem mk_tenth (b : N) : (mkN (b.v / 10)).v = b.v / 10 := by
  have := b.h
  exact mkN_v (by unfold W at *; omega)
set_option maxHeartbeats 2000000 in
theorem Text_ret (a : N) : Ret Tryz.prog 36 [eN a] [] (.str (text a.v.toNat)) [] := by
  refine ret_of_body atNone tok mixed Tryz.func36 (by kernel_rfl) rfl (k := 26) (rs := [.tmp 2]) (by kernel_rfl) (by kernel_rfl) ?_
  conv => whnf
  intro J jw js
  have key : ∀ (k L : Nat) (b : N) (acc : List Int) (cs : List Val), L + k ≤ 78 → b.v ≠ 0 → b.v < 10 ^ k → acc.length = L → Still cs → cs.length = 80 → cs.drop (80 - L) = acc.map (.int .u8) →
      text a.v.toNat = byteList (((lo k b.v.toNat).map fun (d : Nat) => (48 + d : Int)) ++ acc) → J 0 [.und, .ptr 0 0, .str ⟨#[]⟩, .ptr 1 0, .int .i64 (80 - L : Nat), .und, .und, .und, .und, .und, .und, .und, .und, .und, .und, .und, .und, .und, .und, .und, .und, .und, .und, .und, .und, .und] [.cells (cN b), .cells cs] := by
    intro k
    induction k with
    | zero =>
      intro L b acc cs _ h0 h1
      exfalso
      have := b.h.1
      have e : (10 : Int) ^ 0 = 1 := rfl
      rw [e] at h1; omega
    | succ k ih =>
      intro L b acc cs hL hb0 hb hacc hst hcs hdrop htext
      have hbp := b.h.1
      have hA : IntKind.i64.wrap (((80 - L : Nat) : Int) - 1) = ((79 - L : Nat) : Int) := by rw [wi64_id (by omega) (by omega)]; omega
      have hd : ∀ v : Val, decide (0 + (79 - L) * (TD.int IntKind.u8).size + [v].length ≤ cs.length) = true := fun v => decT (by rw [hcs]; simp only [TD.size, List.length_cons, List.length_nil]; omega)
      have hn : ∀ v : Val, List.take (0 + (79 - L) * (TD.int IntKind.u8).size) cs ++ v :: List.drop (0 + (79 - L) * (TD.int IntKind.u8).size + [v].length) cs = upd cs (79 - L) v := fun v => by
        unfold upd; simp only [TD.size, List.length_cons, List.length_nil, Nat.zero_add, Nat.mul_one]
      have hlen : ∀ v : Val, (upd cs (79 - L) v).length = 80 := fun v => by rw [upd_len v (by omega), hcs]
      have hdr : (upd cs (79 - L) (.int .u8 (48 + ((b.v.toNat % 10 : Nat) : Int)))).drop (79 - L) = ((48 + ((b.v.toNat % 10 : Nat) : Int)) :: acc).map (.int .u8) := by
        rw [upd_drop _ (by omega), show 79 - L + 1 = 80 - L by omega, hdrop]; rfl
      have htk : List.take (80 - (79 - L)) (List.drop (0 + (79 - L)) (upd cs (79 - L) (.int .u8 (48 + ((b.v.toNat % 10 : Nat) : Int))))) = ((48 + ((b.v.toNat % 10 : Nat) : Int)) :: acc).map (.int .u8) := by
        rw [Nat.zero_add, hdr, List.take_of_length_le (by simp; omega)]
      have hll : ((((48 + ((b.v.toNat % 10 : Nat) : Int)) :: acc).map (Val.int .u8)).length == 80 - (79 - L)) = true := by
        rw [beq_iff_eq]; simp; omega
      have e10 := mk_tenth b
      have et : (mkN (b.v / 10)).v.toNat = b.v.toNat / 10 := by rw [e10]; omega
      apply js
      (conv => whnf) <;> repeat' (first | ((conv => arg 1; whnf); rw [hd]; conv => whnf) | (rw [byte48]; conv => whnf) | (rw [hn]; conv => whnf) | (rw [hA]; conv => whnf) | (rw [Int.toNat_natCast]; conv => whnf) | ((conv => arg 1; whnf); rw [takeK_eq]; conv => whnf) | ((conv => arg 1; whnf); rw [dropK_eq]; conv => whnf) | ((conv => arg 1; whnf); rw [appK_eq]; conv => whnf) | ((conv => arg 1; whnf); rw [htk]; conv => whnf) | ((conv => arg 1; whnf); rw [hll]; conv => whnf) | ((conv => arg 1; whnf); rw [strOfK_map]; conv => whnf) | (rw [eqN_zero]; conv => whnf) | ((first | refine wN ?_ | refine wA ?_ | refine wB ?_ | refine wC ?_ | refine wD ?_ | refine Called.mk _ _ (smallN b 10 (by decide)) ?_); conv => whnf) | ((first | apply Pick.dec | apply Pick.beq | apply Cond.dec | apply Cond.beq | apply Cond.nd | apply Pick.nd | apply Pick.mk | apply Cond.mk) <;> intro h <;> conv => whnf))
      · have hne : (mkN (b.v / 10)).v ≠ 0 := fun e => h (N.eq e)
        have hih := ih (L + 1) (mkN (b.v / 10)) ((48 + ((b.v.toNat % 10 : Nat) : Int)) :: acc) (upd cs (79 - L) (.int .u8 (48 + ((b.v.toNat % 10 : Nat) : Int)))) (by omega) hne (by rw [e10]; rw [Int.pow_succ] at hb; omega) (by simp [hacc]) (hst.upd _ _ _) (hlen _)
          (by rw [show 80 - (L + 1) = 79 - L by omega]; exact hdr) (by
            rw [htext, et, lo_step (by rw [← et]; intro e; apply hne; have := (mkN (b.v / 10)).h.1; omega)]
            simp only [List.map_append, List.append_assoc, List.map_cons, List.map_nil, List.cons_append, List.nil_append])
        rw [show 80 - (L + 1) = 79 - L by omega, ← hst.upd (79 - L) .u8 (48 + ((b.v.toNat % 10 : Nat) : Int)) (idx [0, 1])] at hih
        apply jw 0 [0, 1] [false, true, true, true, true] _ _ (by decide)
        exact hih
      · have hz : b.v.toNat / 10 = 0 := by rw [← et, h]; rfl
        refine End.mk ?_ rfl
        rw [htext, lo_end hz]
        rfl
  have e10 := mk_tenth a
  have ha := a.h
  have et : (mkN (a.v / 10)).v.toNat = a.v.toNat / 10 := by rw [e10]; unfold W at ha; omega
  (conv => whnf) <;> repeat' (first | (rw [byte48]; conv => whnf) | (rw [eqN_zero]; conv => whnf) | ((first | refine wN ?_ | refine wA ?_ | refine wB ?_ | refine wC ?_ | refine wD ?_ | refine Called.mk _ _ (smallN a 10 (by decide)) ?_); conv => whnf) | ((first | apply Pick.dec | apply Pick.beq | apply Cond.dec | apply Cond.beq | apply Cond.nd | apply Pick.nd | apply Pick.mk | apply Cond.mk) <;> intro h <;> conv => whnf))
  · have hne : (mkN (a.v / 10)).v ≠ 0 := fun e => h (N.eq e)
    have hih := key 77 1 (mkN (a.v / 10)) [48 + ((a.v.toNat % 10 : Nat) : Int)] (List.replicate 79 (.int .u8 0) ++ [.int .u8 (48 + ((a.v.toNat % 10 : Nat) : Int))]) (by omega) hne
      (by rw [e10]; unfold W at ha; have := ha.2; have e77 : (10 : Int) ^ 77 = 100000000000000000000000000000000000000000000000000000000000000000000000000000 := by decide
          rw [e77]; unfold B4 at this; omega) rfl (fun _ => rfl) rfl rfl (by
        rw [text_lo, et, lo_step (by rw [← et]; intro e; apply hne; have := (mkN (a.v / 10)).h.1; omega)]
        simp only [List.map_append, List.map_cons, List.map_nil])
    apply jw 0 [0, 1] [false, true, true, true, true] _ _ (by decide)
    exact hih
  · have hz : a.v.toNat / 10 = 0 := by rw [← et, h]; rfl
    refine End.mk ?_ rfl
    rw [text_lo, lo_end hz]
    rfl
end Go.Proofs.YtdpnhedbggnhiaaGreat

set_option linter.unusedVariables false
set_option linter.unusedSimpArgs false
set_option maxRecDepth 100000
namespace Go.Proofs.YtdpnhedbggnhiaaGreat
open Go.AM
set_option maxHeartbeats 2000000 in
theorem rText_ret (a : N) : Ret Tryz.prog 56 [eN a] [] (.str (text a.v.toNat)) [] := by
  refine ret_of_body atNone tok mixed Tryz.func56 (by kernel_rfl) rfl (k := 52) (rs := [.tmp 2]) (by kernel_rfl) (by kernel_rfl) ?_
  (conv => whnf) <;> repeat' (first | (rw [eqN_zero]; conv => whnf) | ((first | refine wN ?_ | refine wA ?_ | refine wB ?_ | refine wC ?_ | refine wD ?_); conv => whnf) | ((first | apply Pick.dec | apply Pick.beq | apply Cond.dec | apply Cond.beq | apply Cond.nd | apply Pick.nd | apply Pick.mk | apply Cond.mk) <;> intro h <;> conv => whnf))
  · refine End.mk ?_ rfl
    have : a.v.toNat = 0 := by rw [h]; rfl
    rw [this]; rfl
  intro I hw hs
  have fin : ∀ (ds : List Int), 1 ≤ ds.length → ds.length ≤ 78 → text a.v.toNat = byteList ds.reverse → I [.und, .ptr 0 0, .str ⟨#[]⟩, .row 1 ds.length, .und, .und, .und, .und, .und, .und, .und, .und, .und, .und, .und, .und, .und, .und, .und, .und, .und, .und, .und, .und, .und, .und, .und, .und, .und, .und, .und, .und, .und, .und, .und, .und, .und, .und, .und, .und, .und, .und, .und, .und, .und, .und, .und, .und, .und, .und, .und, .und] [.cells (cN N0), .row 5 1 ds.length (gl ds) 0] := by
    intro ds hl1 hl2 htext
    apply hs
    (conv => whnf) <;> repeat' (first | ((first | refine wN ?_ | refine wA ?_ | refine wB ?_ | refine wC ?_ | refine wD ?_); conv => whnf) | ((first | apply Pick.dec | apply Pick.beq | apply Cond.dec | apply Cond.beq | apply Cond.nd | apply Pick.nd | apply Pick.mk | apply Cond.mk) <;> intro h <;> conv => whnf))
    intro J jw js
    have key2 : ∀ (m j : Nat) (l : List Int), Turned ds j l → 2 * j ≤ ds.length → ds.length ≤ 2 * (j + m) + 1 → J [.und, .und, .str ⟨#[]⟩, .row 1 ds.length, .und, .und, .int .i64 (j : Nat), .int .i64 (ds.length - 1 - j : Nat), .und, .und, .und, .und, .und, .und, .und, .und, .und, .und, .und, .und, .und, .und, .und, .und, .und, .und, .und, .und, .und, .und, .und, .und, .und, .und, .und, .und, .und, .und, .und, .und, .und, .und, .und, .und, .und, .und, .und, .und, .und, .und, .und, .und] [.cells (cN N0), .row 5 1 ds.length (gl l) 0] := by
      intro m
      induction m with
      | zero =>
        intro j l hT h1 h2
        have e := hT.done (by omega)
        have hstr : bytesStr ds.length (gl l) = text a.v.toNat := by rw [htext, ← e, ← hT.1]; exact gl_str l
        apply js
        conv => whnf
        refine Cond.ff (decF (by omega)) ?_
        (conv => whnf) <;> repeat' (first | (rw [hstr]; conv => whnf) | (refine Need.mk ⟨Nat.le_refl _, fun i hi => gl_byte i (by rw [hT.1]; exact hi)⟩ ?_; conv => whnf) | ((first | refine wN ?_ | refine wA ?_ | refine wB ?_ | refine wC ?_ | refine wD ?_); conv => whnf) | ((first | apply Pick.dec | apply Pick.beq | apply Cond.dec | apply Cond.beq | apply Cond.nd | apply Pick.nd | apply Pick.mk | apply Cond.mk) <;> intro h <;> conv => whnf))
        exact End.mk rfl rfl
      | succ m ih =>
        intro j l hT h1 h2
        rcases (by omega : ds.length ≤ 2 * j + 1 ∨ 2 * j + 1 < ds.length) with hc | hc
        · exact ih j l hT h1 (by omega)
        · obtain ⟨x, y, hx, hy, hT2⟩ := hT.step hc
          have g1 := gl_set (ds := l) (i := j) y (by rw [hT.1]; omega)
          have g2 := gl_set (ds := l.set j y) (i := ds.length - 1 - j) x (by simp [hT.1]; omega)
          apply js
          conv => whnf
          refine Cond.tt (decT (by omega)) ?_
          (conv => whnf) <;> repeat' (first | (rw [g2]; conv => whnf) | (rw [g1]; conv => whnf) | (rw [Int.toNat_natCast]; conv => whnf) | (rw [gl_get hx]; conv => whnf) | (rw [gl_get hy]; conv => whnf) | ((first | refine wN ?_ | refine wA ?_ | refine wB ?_ | refine wC ?_ | refine wD ?_); conv => whnf) | ((first | apply Pick.dec | apply Pick.beq | apply Cond.dec | apply Cond.beq | apply Cond.nd | apply Pick.nd | apply Pick.mk | apply Cond.mk) <;> intro h <;> conv => whnf))
          rw [show IntKind.i64.wrap ((j : Int) + 1) = ((j + 1 : Nat) : Int) by rw [wi64_id (by omega) (by omega)]; omega, show IntKind.i64.wrap (((ds.length - 1 - j : Nat) : Int) - 1) = ((ds.length - 1 - (j + 1) : Nat) : Int) by rw [wi64_id (by omega) (by omega)]; omega]
          apply jw [0, 1] [false, false, true, true, false, false, true, true] _ _ (by decide)
          exact ih (j + 1) _ hT2 (by omega) (by omega)
    rw [show IntKind.i64.wrap ((ds.length : Int) - 1) = ((ds.length - 1 - 0 : Nat) : Int) by rw [wi64_id (by omega) (by omega)]; omega]
    apply jw [0, 1] [false, false, true, true, false, false, true, true] _ _ (by decide)
    exact key2 40 0 ds (.start ds) (by omega) (by omega)
  have key : ∀ (k : Nat) (b : N) (ds : List Int), b.v < 10 ^ k → 1 ≤ ds.length → ds.length + k ≤ 78 → text a.v.toNat = byteList (ds ++ (dl k b.v.toNat).map (fun (d : Nat) => (48 + d : Int))).reverse →
      I [.und, .ptr 0 0, .str ⟨#[]⟩, .row 1 ds.length, .und, .und, .und, .und, .und, .und, .und, .und, .und, .und, .und, .und, .und, .und, .und, .und, .und, .und, .und, .und, .und, .und, .und, .und, .und, .und, .und, .und, .und, .und, .und, .und, .und, .und, .und, .und, .und, .und, .und, .und, .und, .und, .und, .und, .und, .und, .und, .und] [.cells (cN b), .row 5 1 ds.length (gl ds) 0] := by
    intro k
    induction k with
    | zero =>
      intro b ds hb hl1 hl2 hds
      have hbp := b.h.1
      have e : (10 : Int) ^ 0 = 1 := rfl
      rw [e] at hb
      have hb0 : b = N0 := N.eq (show b.v = 0 by omega)
      subst hb0
      exact fin ds hl1 (by omega) (by simpa [dl] using hds)
    | succ k ih =>
      intro b ds hb hl1 hl2 hds
      have hbp := b.h.1
      by_cases hb0 : b = N0
      · subst hb0
        exact fin ds hl1 (by omega) (by simpa [dl, N0] using hds)
      have hbn : b.v.toNat ≠ 0 := fun e => hb0 (N.eq (show b.v = 0 by omega))
      have e10 := mk_tenth b
      have et : (mkN (b.v / 10)).v.toNat = b.v.toNat / 10 := by rw [e10]; omega
      apply hs
      (conv => whnf) <;> repeat' (first | (rw [byte48]; conv => whnf) | (rw [gl_append]; conv => whnf) | (rw [eqN_zero]; conv => whnf) | ((first | refine wN ?_ | refine wA ?_ | refine wB ?_ | refine wC ?_ | refine wD ?_ | refine Called.mk _ _ (rsmallN b 10 (by decide)) ?_); conv => whnf) | ((first | apply Pick.dec | apply Pick.beq | apply Cond.dec | apply Cond.beq | apply Cond.nd | apply Pick.nd | apply Pick.mk | apply Cond.mk) <;> intro h <;> conv => whnf))
      · apply hw [0, 4] [false, true, true, true] _ _ (by decide)
        have hih := ih (mkN (b.v / 10)) (ds ++ [48 + ((b.v.toNat % 10 : Nat) : Int)]) (by rw [e10]; rw [Int.pow_succ] at hb; omega) (by simp) (by simp; omega) (by
          rw [hds, et]
          simp only [dl, hbn, if_false, List.map_cons, List.append_assoc, List.cons_append, List.nil_append])
        rw [show (ds ++ [48 + ((b.v.toNat % 10 : Nat) : Int)]).length = ds.length + 1 by simp] at hih
        exact hih
      · exact absurd h hb0
  have hbn : a.v.toNat ≠ 0 := fun e => h (N.eq (show a.v = 0 by have := a.h.1; omega))
  have e10 := mk_tenth a
  have et : (mkN (a.v / 10)).v.toNat = a.v.toNat / 10 := by rw [e10]; have := a.h.1; omega
  apply hs
  (conv => whnf) <;> repeat' (first | (rw [byte48]; conv => whnf) | (rw [gl_one]; conv => whnf) | (rw [eqN_zero]; conv => whnf) | ((first | refine wN ?_ | refine wA ?_ | refine wB ?_ | refine wC ?_ | refine wD ?_ | refine Called.mk _ _ (rsmallN a 10 (by decide)) ?_); conv => whnf) | ((first | apply Pick.dec | apply Pick.beq | apply Cond.dec | apply Cond.beq | apply Cond.nd | apply Pick.nd | apply Pick.mk | apply Cond.mk) <;> intro h <;> conv => whnf))
  · apply hw [0, 3] [false, true, true, true] _ _ (by decide)
    refine key 77 (mkN (a.v / 10)) [48 + ((a.v.toNat % 10 : Nat) : Int)] ?_ (by simp) (by simp) ?_
    · rw [e10]
      have ha := a.h
      unfold W at ha
      have := ha.2
      have e77 : (10 : Int) ^ 77 = 100000000000000000000000000000000000000000000000000000000000000000000000000000 := by decide
      rw [e77]; unfold B4 at this; omega
    · rw [text_lo, et, lo, if_neg hbn, List.map_reverse]
      simp only [dl, hbn, if_false, List.map_cons, List.cons_append, List.nil_append]
  · contradiction
end Go.Proofs.YtdpnhedbggnhiaaGreat

