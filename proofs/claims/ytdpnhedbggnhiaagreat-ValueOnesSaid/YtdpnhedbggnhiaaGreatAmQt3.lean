/- dectext.Text, exciseref03.Text. -/
import Derived.Test.YtdpnhedbggnhiaaGreatAmQt2
import Derived.Test.YtdpnhedbggnhiaaGreatAmGD
import Derived.Test.YtdpnhedbggnhiaaGreatAmGH
set_option linter.unusedVariables false
set_option linter.unusedSimpArgs false
set_option maxRecDepth 100000
namespace Go.Proofs.YtdpnhedbggnhiaaGreat
open Go.AM
theorem padB_100 {t : ByteArray} {k : Nat} (h : t.size ≤ 78) (hk : k ≤ 18) : (padB t k).size ≤ 100 := by
  unfold padB
  split
  · rw [ByteArray.size_append, zs_size]; omega
  · omega
theorem signB_t {b : Bool} {s : ByteArray} (h : b = true) : signB b s = ⟨#[45]⟩ ++ s := by subst h; rfl
theorem signB_f {b : Bool} {s : ByteArray} (h : b = false) : signB b s = s := by subst h; rfl
theorem pointB_t {s : ByteArray} {k : Nat} (h : 0 < k) : pointB s k = s.extract 0 (s.size - k) ++ ⟨#[46]⟩ ++ s.extract (s.size - k) s.size := if_pos h
theorem pointB_f {s : ByteArray} {k : Nat} (h : ¬ 0 < k) : pointB s k = s := if_neg h
theorem padB_zs (t : ByteArray) (k : Nat) : padB t k = zs (k + 1 - t.size) ++ t := by
  unfold padB
  split
  · rfl
  · rw [show k + 1 - t.size = 0 by omega, zs_0]
theorem ext_size (p : ByteArray) (i j : Nat) : (p.extract i j).size ≤ p.size := by
  rw [ByteArray.size_extract]; omega
theorem app_size (a b : ByteArray) : (a ++ b).size = a.size + b.size := ByteArray.size_append
set_option maxHeartbeats 8000000 in
theorem dText_ret (d : D) : Ret Tryz.prog 34 [eD d] [] (.str (if d.ok then decTxt d else ⟨#[63]⟩)) [] := by
  have hc := Check_ret d
  have ht := Text_ret d.n
  by_cases hd : d.ok
  · rw [check_ok hd] at hc
    rw [if_pos hd]
    have hd2 := hd
    obtain ⟨h0, h1, _⟩ := hd2
    have hsz := text_size d.n.v.toNat
    have hp := padB_size (text d.n.v.toNat) d.scale.toNat
    have hps := padB_100 hsz (k := d.scale.toNat) (by omega)
    have hpad : padB (text d.n.v.toNat) d.scale.toNat = if (text d.n.v.toNat).size ≤ d.scale.toNat then zs (d.scale.toNat + 1 - (text d.n.v.toNat).size) ++ text d.n.v.toNat else text d.n.v.toNat := rfl
    unfold decTxt
    generalize text d.n.v.toNat = t at *
    generalize padB t d.scale.toNat = p at *
    have e0 : IntKind.i64.wrap (d.scale + 1) = d.scale + 1 := wi64_id (by omega) (by omega)
    have e1 : IntKind.i64.wrap (IntKind.i64.wrap (d.scale + 1) - (t.size : Int)) = (d.scale + 1 - (t.size : Int)) := by
      rw [e0, wi64_id (by omega) (by omega)]
    have e2 : IntKind.i64.wrap ((p.size : Int) - d.scale) = ((p.size - d.scale.toNat : Nat) : Int) := by rw [wi64_id (by omega) (by omega)]; omega
    have z0 := zs_size (d.scale.toNat + 1 - t.size)
    have z1 := ext_size p 0 (p.size - d.scale.toNat)
    have z2 := ext_size p (p.size - d.scale.toNat) p.size
    have z3 : (⟨#[46]⟩ : ByteArray).size = 1 := rfl
    have z4 : (⟨#[45]⟩ : ByteArray).size = 1 := rfl
    have z5 := app_size (p.extract 0 (p.size - d.scale.toNat)) ⟨#[46]⟩
    have z6 := app_size (p.extract 0 (p.size - d.scale.toNat) ++ ⟨#[46]⟩) (p.extract (p.size - d.scale.toNat) p.size)
    have j1 : (0 : Int) ≤ 0 ∧ (0 : Int) ≤ ((p.size - d.scale.toNat : Nat) : Int) ∧ ((p.size - d.scale.toNat : Nat) : Int) ≤ (p.size : Int) := by omega
    have j2 : (0 : Int) ≤ ((p.size - d.scale.toNat : Nat) : Int) ∧ ((p.size - d.scale.toNat : Nat) : Int) ≤ (p.size : Int) ∧ (p.size : Int) ≤ (p.size : Int) := by omega
    by_cases ht2 : t.size ≤ d.scale.toNat
    · rw [if_pos ht2] at hpad
      have hr := repeat_ret (d.scale.toNat + 1 - t.size) (by omega)
      have e3 : ((d.scale.toNat + 1 - t.size : Nat) : Int) = (d.scale + 1 - (t.size : Int)) := by omega
      rw [e3] at hr
      refine ret_of_body atNone tok mixed Tryz.func34 (by kernel_rfl) rfl (k := 46) (rs := [.tmp 2]) (by kernel_rfl) (by kernel_rfl) ?_
      (conv => whnf) <;> repeat' (first | (rw [e1]; conv => whnf) | (rw [← hpad]; conv => whnf) | (rw [e2]; conv => whnf) | (refine Need.mk j1 ?_; conv => whnf) | (refine Need.mk j2 ?_; conv => whnf) | ((first | refine wN ?_ | refine wA ?_ | refine wB ?_ | refine wC ?_ | refine wD ?_ | refine Called.mk _ _ (hc) ?_ | refine Called.mk _ _ (ht) ?_ | refine Called.mk _ _ (hr) ?_ | refine vA ?_ | refine vB ?_ | refine vC ?_ | refine vD ?_ | refine uA ?_ | refine uB ?_ | refine uC ?_ | refine uD ?_); conv => whnf) | ((first | apply Pick.dec | apply Pick.beq | apply Cond.dec | apply Cond.beq | apply Cond.nd | apply Pick.nd | apply Pick.mk | apply Cond.mk) <;> intro h <;> conv => whnf))
      all_goals
        refine End.mk ?_ rfl
        first | rw [signB_t (by assumption)] | rw [signB_f (by assumption)]
        first | rw [pointB_t (by omega)] | rw [pointB_f (by omega)]
        try rfl
    · rw [if_neg ht2] at hpad
      subst hpad
      refine ret_of_body atNone tok mixed Tryz.func34 (by kernel_rfl) rfl (k := 46) (rs := [.tmp 2]) (by kernel_rfl) (by kernel_rfl) ?_
      (conv => whnf) <;> repeat' (first | (rw [e2]; conv => whnf) | (refine Need.mk j1 ?_; conv => whnf) | (refine Need.mk j2 ?_; conv => whnf) | ((first | refine wN ?_ | refine wA ?_ | refine wB ?_ | refine wC ?_ | refine wD ?_ | refine Called.mk _ _ (hc) ?_ | refine Called.mk _ _ (ht) ?_ | refine vA ?_ | refine vB ?_ | refine vC ?_ | refine vD ?_ | refine uA ?_ | refine uB ?_ | refine uC ?_ | refine uD ?_); conv => whnf) | ((first | apply Pick.dec | apply Pick.beq | apply Cond.dec | apply Cond.beq | apply Cond.nd | apply Pick.nd | apply Pick.mk | apply Cond.mk) <;> intro h <;> conv => whnf))
      all_goals
        refine End.mk ?_ rfl
        first | rw [signB_t (by assumption)] | rw [signB_f (by assumption)]
        first | rw [pointB_t (by omega)] | rw [pointB_f (by omega)]
        try rfl
  · rw [check_bad hd] at hc
    rw [if_neg hd]
    refine ret_of_body atNone tok mixed Tryz.func34 (by kernel_rfl) rfl (k := 46) (rs := [.tmp 2]) (by kernel_rfl) (by kernel_rfl) ?_
    (conv => whnf) <;> repeat' (first | ((first | refine wN ?_ | refine wA ?_ | refine wB ?_ | refine wC ?_ | refine wD ?_ | refine Called.mk _ _ (hc) ?_ | refine vA ?_ | refine vB ?_ | refine vC ?_ | refine vD ?_ | refine uA ?_ | refine uB ?_ | refine uC ?_ | refine uD ?_); conv => whnf) | ((first | apply Pick.dec | apply Pick.beq | apply Cond.dec | apply Cond.beq | apply Cond.nd | apply Pick.nd | apply Pick.mk | apply Cond.mk) <;> intro h <;> conv => whnf))
    exact End.mk rfl rfl
set_option maxHeartbeats 8000000 in
theorem rdText_ret (d : D) : Ret Tryz.prog 38 [eD d] [] (.str (if d.ok then decTxt d else ⟨#[63]⟩)) [] := by
  have hc := rCheck_ret d
  have ht := rText_ret d.n
  by_cases hd : d.ok
  · rw [check_ok hd] at hc
    rw [if_pos hd]
    have hd2 := hd
    obtain ⟨h0, h1, _⟩ := hd2
    have hsz := text_size d.n.v.toNat
    have hp := padB_size (text d.n.v.toNat) d.scale.toNat
    have hps := padB_100 hsz (k := d.scale.toNat) (by omega)
    have hpad := padB_zs (text d.n.v.toNat) d.scale.toNat
    unfold decTxt
    generalize text d.n.v.toNat = t at *
    generalize padB t d.scale.toNat = p at *
    have e2 : IntKind.i64.wrap ((p.size : Int) - d.scale) = ((p.size - d.scale.toNat : Nat) : Int) := by rw [wi64_id (by omega) (by omega)]; omega
    have z1 := ext_size p 0 (p.size - d.scale.toNat)
    have z2 := ext_size p (p.size - d.scale.toNat) p.size
    have z3 : (⟨#[46]⟩ : ByteArray).size = 1 := rfl
    have z4 : (⟨#[45]⟩ : ByteArray).size = 1 := rfl
    have z7 : (⟨#[48]⟩ : ByteArray).size = 1 := rfl
    have z5 := app_size (p.extract 0 (p.size - d.scale.toNat)) ⟨#[46]⟩
    have z6 := app_size (p.extract 0 (p.size - d.scale.toNat) ++ ⟨#[46]⟩) (p.extract (p.size - d.scale.toNat) p.size)
    have j1 : (0 : Int) ≤ 0 ∧ (0 : Int) ≤ ((p.size - d.scale.toNat : Nat) : Int) ∧ ((p.size - d.scale.toNat : Nat) : Int) ≤ (p.size : Int) := by omega
    have j2 : (0 : Int) ≤ ((p.size - d.scale.toNat : Nat) : Int) ∧ ((p.size - d.scale.toNat : Nat) : Int) ≤ (p.size : Int) ∧ (p.size : Int) ≤ (p.size : Int) := by omega
    refine ret_of_body atNone tok mixed Tryz.func38 (by kernel_rfl) rfl (k := 41) (rs := [.tmp 2]) (by kernel_rfl) (by kernel_rfl) ?_
    (conv => whnf) <;> repeat' (first | ((first | refine wN ?_ | refine wA ?_ | refine wB ?_ | refine wC ?_ | refine wD ?_ | refine Called.mk _ _ (hc) ?_ | refine Called.mk _ _ (ht) ?_ | refine vA ?_ | refine vB ?_ | refine vC ?_ | refine vD ?_ | refine uA ?_ | refine uB ?_ | refine uC ?_ | refine uD ?_); conv => whnf) | ((first | apply Pick.dec | apply Pick.beq | apply Cond.dec | apply Cond.beq | apply Cond.nd | apply Pick.nd | apply Pick.mk | apply Cond.mk) <;> intro h <;> conv => whnf))
    intro I hw hs
    have turn : ∀ (m j : Nat), j + m = d.scale.toNat + 1 - t.size → I [.und, .ptr 0 0, .str ⟨#[]⟩, .str (zs j ++ t), .und, .und, .und, .und, .und, .und, .und, .und, .und, .und, .und, .und, .und, .und, .und, .und, .und, .und, .und, .und, .und, .und, .und, .und, .und, .und, .und, .und, .und, .und, .und, .und, .und, .und, .und, .und, .und] [.cells (cD d)] := by
      intro m
      induction m with
      | zero =>
        intro j hj
        obtain rfl : j = d.scale.toNat + 1 - t.size := by omega
        rw [← hpad]
        apply hs
        (conv => whnf) <;> repeat' (first | (rw [e2]; conv => whnf) | (refine Need.mk j1 ?_; conv => whnf) | (refine Need.mk j2 ?_; conv => whnf) | ((first | refine wN ?_ | refine wA ?_ | refine wB ?_ | refine wC ?_ | refine wD ?_ | refine vA ?_ | refine vB ?_ | refine vC ?_ | refine vD ?_ | refine uA ?_ | refine uB ?_ | refine uC ?_ | refine uD ?_); conv => whnf) | ((first | apply Pick.dec | apply Pick.beq | apply Cond.dec | apply Cond.beq | apply Cond.nd | apply Pick.nd | apply Pick.mk | apply Cond.mk) <;> intro h <;> conv => whnf))
        all_goals
          refine End.mk ?_ rfl
          first | rw [signB_t (by assumption)] | rw [signB_f (by assumption)]
          first | rw [pointB_t (by omega)] | rw [pointB_f (by omega)]
          try rfl
      | succ m im =>
        intro j hj
        have nxt := im (j + 1) (by omega)
        rw [← zs_succ] at nxt
        have y1 : (zs j ++ t).size = j + t.size := by rw [app_size, zs_size]
        generalize zs j ++ t = u at *
        apply hs
        (conv => whnf) <;> repeat' (first | ((first | refine wN ?_ | refine wA ?_ | refine wB ?_ | refine wC ?_ | refine wD ?_ | refine vA ?_ | refine vB ?_ | refine vC ?_ | refine vD ?_ | refine uA ?_ | refine uB ?_ | refine uC ?_ | refine uD ?_); conv => whnf) | ((first | apply Pick.dec | apply Pick.beq | apply Cond.dec | apply Cond.beq | apply Cond.nd | apply Pick.nd | apply Pick.mk | apply Cond.mk) <;> intro h <;> conv => whnf))
        apply hw [0] [false, true, true, true] _ _ rfl
        exact nxt
    have fst := turn (d.scale.toNat + 1 - t.size) 0 (by omega)
    rw [zs_0] at fst
    apply hw [0] [false, true, true, true] _ _ rfl
    exact fst
  · rw [check_bad hd] at hc
    rw [if_neg hd]
    refine ret_of_body atNone tok mixed Tryz.func38 (by kernel_rfl) rfl (k := 41) (rs := [.tmp 2]) (by kernel_rfl) (by kernel_rfl) ?_
    (conv => whnf) <;> repeat' (first | ((first | refine wN ?_ | refine wA ?_ | refine wB ?_ | refine wC ?_ | refine wD ?_ | refine Called.mk _ _ (hc) ?_ | refine vA ?_ | refine vB ?_ | refine vC ?_ | refine vD ?_ | refine uA ?_ | refine uB ?_ | refine uC ?_ | refine uD ?_); conv => whnf) | ((first | apply Pick.dec | apply Pick.beq | apply Cond.dec | apply Cond.beq | apply Cond.nd | apply Pick.nd | apply Pick.mk | apply Cond.mk) <;> intro h <;> conv => whnf))
    exact End.mk rfl rfl
end Go.Proofs.YtdpnhedbggnhiaaGreat

