/- How far a rounded number is from the number. -/
import Derived.Test.YtgjkpegkjhpfiaaAmGU
set_option linter.unusedVariables false
set_option linter.unusedSimpArgs false
set_option maxRecDepth 100000
namespace Go.AM
theorem ten_split {a s : Int} (h1 : s ≤ a) (h2 : a ≤ 18) : tenP (18 - s) = tenP (a - s) * tenP (18 - a) := by
  rw [← tenP_add (by omega) (by omega)]; congr 1; omega
theorem sgd_sub (neg : Bool) (x y : Int) : sgd neg x - sgd neg y = sgd neg (x - y) := by unfold sgd; cases neg <;> simp; omega
theorem mul_lt_pos {x y t : Int} (ht : 0 < t) (h : x < y) : x * t < y * t := Int.mul_lt_mul_of_pos_right h ht
theorem mul_le_pos {x y t : Int} (ht : 0 < t) (h : x ≤ y) : x * t ≤ y * t := Int.mul_le_mul_of_nonneg_right h (by omega)
theorem rescale_far {a : D} {s p : Int} (h : (rescaleD a s p).2 = 0) : (-(tenP (18 - s)) < (rescaleD a s p).1.val - a.val ∧ (rescaleD a s p).1.val - a.val < tenP (18 - s)) ∧ (a.scale ≤ s → (rescaleD a s p).1.val = a.val) ∧
    (p = 1 ∨ p = 2 → -(tenP (18 - s)) ≤ 2 * ((rescaleD a s p).1.val - a.val) ∧ 2 * ((rescaleD a s p).1.val - a.val) ≤ tenP (18 - s)) := by
  obtain ⟨ha, hm, hx, hxs, hc⟩ := rescaleD_0 h
  have hp := tenP_pos (18 - s)
  rcases hc with ⟨h1, h2⟩ | ⟨h1, h2⟩
  · rw [h2]
    refine ⟨⟨by omega, by omega⟩, fun _ => rfl, fun _ => ⟨by omega, by omega⟩⟩
  · have hd := tenP_pos (a.scale - s)
    have ht := tenP_pos (18 - a.scale)
    have es := ten_split (a := a.scale) (s := s) (by omega) ha.2.1
    obtain ⟨f1, f2, f3⟩ := quoD_far (p := p) (neg := a.neg) a.n.h.1 hd
    have ev : (rescaleD a s p).1.val - a.val = sgd a.neg (quoD p a.neg a.n.v (tenP (a.scale - s)) * tenP (a.scale - s) - a.n.v) * tenP (18 - a.scale) := by
      rw [val_of h2 hxs, show a.val = sgd a.neg a.n.v * tenP (18 - a.scale) from rfl, es, ← Int.mul_assoc, ← Int.sub_mul, sgd_mul, sgd_sub]
    rw [ev, es]
    generalize quoD p a.neg a.n.v (tenP (a.scale - s)) * tenP (a.scale - s) - a.n.v = z at *
    generalize tenP (a.scale - s) = d at *
    generalize tenP (18 - a.scale) = t at *
    have g : -d < sgd a.neg z ∧ sgd a.neg z < d := by unfold sgd; cases a.neg <;> simp <;> omega
    have g3 : p = 1 ∨ p = 2 → -d ≤ 2 * sgd a.neg z ∧ 2 * sgd a.neg z ≤ d := fun hp => by have := f3 hp; unfold sgd; cases a.neg <;> simp <;> omega
    generalize sgd a.neg z = y at *
    rw [← Int.neg_mul, ← Int.mul_assoc]
    refine ⟨⟨mul_lt_pos ht g.1, mul_lt_pos ht g.2⟩, fun h => by omega, fun hp => ⟨mul_le_pos ht (g3 hp).1, mul_le_pos ht (g3 hp).2⟩⟩
theorem rescale_again {a : D} {s p : Int} (h : (rescaleD a s p).2 = 0) : rescaleD (rescaleD a s p).1 s p = ((rescaleD a s p).1, 0) := by
  obtain ⟨ha, hm, hx, hxs, _⟩ := rescaleD_0 h
  generalize (rescaleD a s p).1 = x at *
  have e : rescaleD x s p = roundD x.neg x.n.v x.scale s p := by unfold rescaleD; rw [if_pos hx, if_pos hm]
  rw [e, ← hxs]; exact roundD_same hx p
/-- without its sign -/
def magD (d : D) : D := ⟨false, d.n, d.scale⟩
theorem magD_ok {d : D} (h : d.ok) : (magD d).ok ∧ (magD d).val = (if d.val < 0 then -d.val else d.val) ∧ 0 ≤ (magD d).val := by
  have hp := mag_nonneg d
  have e : (magD d).val = d.n.v * tenP (18 - d.scale) := val_pos (d := magD d) rfl
  refine ⟨⟨h.1, h.2.1, fun hh => by cases hh.1⟩, ?_, by rw [e]; exact hp⟩
  rw [e]
  cases hn : d.neg
  · rw [val_pos hn, if_neg (by omega)]
  · have : ¬ d.n = N0 := fun e => h.2.2 ⟨hn, e⟩
    have := mag_pos this
    rw [val_neg hn, if_pos (by omega), Int.neg_neg]
theorem ten18 {s : Int} (h : 0 ≤ s) : tenP (18 - s) ≤ 1000000000000000000 := by
  have h2 : (10 : Int) ^ (18 - s).toNat ≤ 10 ^ 18 := by
    have := Nat.pow_le_pow_right (n := 10) (by decide) (show (18 - s).toNat ≤ 18 by omega)
    exact_mod_cast this
  exact h2
theorem twice_ok {e : D} (h : e.ok) (hn : e.neg = false) (hv : e.val < 1000000000000000000) : (addD e e).2 = 0 ∧ (addD e e).1.ok ∧ (addD e e).1.val = 2 * e.val := by
  have h2 : addD e e = _ := if_pos ⟨h, h⟩
  rw [Int.max_self, Int.sub_self, show tenP 0 = 1 from rfl, Int.mul_one] at h2
  have hsv : e.sv = e.n.v := by unfold D.sv; rw [hn]; rfl
  have hle : e.n.v ≤ e.val := by
    rw [val_pos hn]
    have := Int.mul_le_mul_of_nonneg_left (show 1 ≤ tenP (18 - e.scale) by have := tenP_pos (18 - e.scale); omega) e.n.h.1
    rw [Int.mul_one] at this; exact this
  rcases addD_ok h h with h7 | ⟨h0, hk, hval, _⟩
  · exfalso
    rw [h2] at h7
    rcases madeZ_ok (z := e.sv + e.sv) (s := e.scale) ⟨h.1, h.2.1⟩ with ⟨_, _, hb⟩ | ⟨k, _⟩
    · rw [hsv] at hb; have := e.n.h.1; unfold B4 at hb; omega
    · rw [h7] at k; cases k
  · exact ⟨h0, hk, by omega⟩
theorem one_ok {s : Int} (hs : 0 ≤ s ∧ s ≤ 18) : (ofIntD 1 s).2 = 0 ∧ (ofIntD 1 s).1.ok ∧ (ofIntD 1 s).1.val = tenP (18 - s) := by
  rw [show ofIntD 1 s = madeZ 1 s from if_pos hs]
  rcases madeZ_ok (z := 1) hs with ⟨_, _, hb⟩ | ⟨k1, k2, k3, k4, _⟩
  · unfold B4 at hb; omega
  · exact ⟨k1, k2, by rw [val_of k3 k4, Int.one_mul]⟩
theorem half_way {a : D} {s : Int} (h1 : (rescaleD a s 1).2 = 0) (h2 : (rescaleD a s 2).2 = 0) (hne : (rescaleD a s 1).1 ≠ (rescaleD a s 2).1) : a.val - (rescaleD a s 2).1.val = (rescaleD a s 1).1.val - a.val := by
  obtain ⟨ha, hm, hx, hxs, hc⟩ := rescaleD_0 h1
  obtain ⟨_, hm2, hy, hys, hd⟩ := rescaleD_0 h2
  have e1 : rescaleD a s 1 = roundD a.neg a.n.v a.scale s 1 := by unfold rescaleD; rw [if_pos ha, if_pos hm]
  have e2 : rescaleD a s 2 = roundD a.neg a.n.v a.scale s 2 := by unfold rescaleD; rw [if_pos ha, if_pos hm2]
  rcases hc with ⟨g1, g2⟩ | ⟨g1, g2⟩
  · exfalso
    apply hne
    rw [e1, e2]
    unfold roundD
    rw [if_pos g1, if_pos g1]
  · rcases hd with ⟨k1, _⟩ | ⟨_, k2⟩
    · omega
    · have hq : quoD 1 a.neg a.n.v (tenP (a.scale - s)) ≠ quoD 2 a.neg a.n.v (tenP (a.scale - s)) := fun hq => by
        apply hne
        rw [e1, e2]
        unfold roundD
        have hn : ¬ a.scale ≤ s := by omega
        simp only [if_neg hn, hq]
      obtain ⟨q1, q2, q3⟩ := quoD_half hq
      rw [val_of g2 hxs, val_of k2 hys, show a.val = sgd a.neg a.n.v * tenP (18 - a.scale) from rfl, q1, q2, ten_split (a := a.scale) (s := s) (by omega) ha.2.1, ← Int.mul_assoc, ← Int.mul_assoc, ← Int.sub_mul, ← Int.sub_mul, sgd_mul, sgd_mul, sgd_sub, sgd_sub]
      congr 2
      have := Int.mul_ediv_add_emod a.n.v (tenP (a.scale - s))
      rw [Int.add_mul, Int.one_mul, Int.mul_comm (a.n.v / tenP (a.scale - s))]
      omega
theorem cmpZ_lt0 {x y : Int} : cmpZ x y < 0 ↔ x < y := by
  unfold cmpZ
  repeat' split
  all_goals omega
end Go.AM
