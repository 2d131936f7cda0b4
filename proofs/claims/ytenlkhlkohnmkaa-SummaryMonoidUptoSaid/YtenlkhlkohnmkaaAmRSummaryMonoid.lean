/- The law SummaryMonoid, of the second form. -/
import Derived.Test.YtenlkhlkohnmkaaAmGK
import Derived.Test.YtenlkhlkohnmkaaAmR2
set_option linter.unusedVariables false
set_option linter.unusedSimpArgs false
set_option maxRecDepth 100000
namespace Go.Proofs.Ytenlkhlkohnmkaa
open Go.AM Go.ChangeShapes Go.WideShapes Go.ChangeAt Go.RowKit
theorem summaryMonoid_any (x : Sl Vl) (c : Int) (y : Sl Int) (hx : ExtL cV x.n x.g x.l) (hy : ExtL (fun b => [.int .u8 b]) y.n y.g y.l) (hb : ∀ b ∈ y.l, 0 ≤ b ∧ b < 256) (bx : x.n ≤ 1048576) (by_ : y.n ≤ 1048576) :
    Ret Try.prog 13 [.ext 10 x.n x.g, .int .i64 c, .ext 1 y.n y.g] [] (.bool true) [] := by
  rcases (by omega : x.n = 0 ∨ 0 < x.n) with h0 | h0
  · rw [h0]; exact summaryMonoid_nil x.g y.g c y.n
  · refine summaryMonoid_ret x.n y.n x.g y.g x.l c hx (fun i hi => ?_) (by omega) (by omega) h0
    have hi' : i < y.l.length := by rw [hy.1]; exact hi
    exact ⟨y.l[i], hy.2 i hi', hb _ (List.getElem_mem hi')⟩
set_option maxRecDepth 100000 in
theorem summaryMonoid_lifted (os : Os) (started : os.Started) (H : Type) (enc : TypeId × Value → H) (F : Stop.Interp) :
    ReturnsInHanded {} Try.checked os 13 .any ((Rows.OpenSpec.upto Rows.summaryMonoidSpec).pre6 enc Try.prog Try.f13 Rows.summaryMonoidUptoRow.domain false) (((Rows.OpenSpec.upto Rows.summaryMonoidSpec).at F).post enc Try.prog Try.f13 false true false false) := by
  refine returnsInHanded_of_cond (C := Try.checked) (s := (Rows.OpenSpec.upto Rows.summaryMonoidSpec)) (k := Rows.uptoSmall) rfl own started (by kernel_rfl) Try.func13
    (OpenSpec.witness (enc := enc) (C := Try.checked) (s := (Rows.OpenSpec.upto Rows.summaryMonoidSpec)) (k := Rows.uptoSmall) rfl false ⟨#[], #[.slice none 0 0, .int .i64 0, .slice none 0 0], []⟩ 8 (by kernel_rfl) (by kernel_rfl) (by kernel_rfl) (x := ([.nil, .lit (.int .i64 0), .nil], [], [])) (by kernel_rfl) rfl (by kernel_rfl)) ?_
  intro W base args ds gs before hval0 hW hcnd hk hsz0
  have hval : ∀ (j : Nat) t v, Try.f13.params[j]? = some t → args[j]? = some v → Value.okWide Try.prog W .any base t v := hval0
  have hW' := hW
  obtain ⟨p, q, hA0, hV, rfl, hfz, hnd⟩ := hW
  have hA : DataW.TrodAll enc Try.prog W 0 (fun _ => true) true Try.f13.params.toList args.toList ds p := hA0
  rw [Try.params13] at hA hval
  obtain ⟨v0, vs0, d0, ds0, p0, q0, hargs, rfl, rfl, h0, r0⟩ := trodAll_cons hA
  obtain ⟨v1, vs1, d1, ds1, p1, q1, rfl, rfl, rfl, h1, r1⟩ := trodAll_cons r0
  obtain ⟨v2, vs2, d2, ds2, p2, q2, rfl, rfl, rfl, h2, r2⟩ := trodAll_cons r1
  obtain ⟨rfl, rfl, rfl⟩ := trodAll_nil r2
  obtain rfl : args = #[v0, v1, v2] := by cases args; simp_all
  obtain ⟨rfl, rfl⟩ := trodVars_none hV
  obtain ⟨x0, w0a, w0b, rel0⟩ := open_vals (ι := fun _ => none) (hval 0 62 v0 rfl rfl) h0
  have lt0 : ∀ x ∈ p0, x.block < W.heap.size := by obtain ⟨m, hm⟩ := h0; exact DataW.trod_lt m _ _ _ hm
  have bk0 := bulk_bound (d := d0) hk (by simp)
  obtain ⟨x1, w1, rel1⟩ := open_int (ι := fun _ => none) (hval 1 3 v1 rfl rfl) h1
  have lt1 : ∀ x ∈ p1, x.block < W.heap.size := by obtain ⟨m, hm⟩ := h1; exact DataW.trod_lt m _ _ _ hm
  have bk1 := bulk_bound (d := d1) hk (by simp)
  obtain ⟨x2, w2a, w2b, rel2⟩ := open_bytes (ι := fun _ => none) (hval 2 63 v2 rfl rfl) h2
  have lt2 : ∀ x ∈ p2, x.block < W.heap.size := by obtain ⟨m, hm⟩ := h2; exact DataW.trod_lt m _ _ _ hm
  have bk2 := bulk_bound (d := d2) hk (by simp)
  clear hA0 hval0 hsz0
  have htm : TmOk (fun _ => none) W.cell? [.ext 10 x0.n x0.g, .int .i64 x1, .ext 1 x2.n x2.g] #[v0, v1, v2] := ⟨rfl, fun i hi => by
    match i, hi with
    | 0, _ => exact rel0
    | 1, _ => exact rel1
    | 2, _ => exact rel2⟩
  show Calls Try.prog 13 #[v0, v1, v2] W fun e W' => ∃ v, e = .returned v ∧ Rows.summaryMonoidSpec.post enc Try.prog Try.f13 false true false false W #[v0, v1, v2] v W'
  refine (ret_true (summaryMonoid_any x0 x1 x2 w0a.1 w2a.1 w2a.2 (Nat.le_trans w0b bk0) (Nat.le_trans w2b bk2)) htm).mono fun e W' ⟨he, bel⟩ => ?_
  subst he
  exact ⟨_, rfl, _, _, _, [], _, [], hW', trodAll_mk1 (shut_bool Try.underlying4 _),
    trodAll_cons_mk (Below.trod laidOut (by kernel_rfl) (of_decide_eq_true (by kernel_rfl)) h0 bel lt0) (trodAll_cons_mk (Below.trod laidOut (by kernel_rfl) (of_decide_eq_true (by kernel_rfl)) h1 bel lt1) (trodAll_cons_mk (Below.trod laidOut (by kernel_rfl) (of_decide_eq_true (by kernel_rfl)) h2 bel lt2) (trodAll_mk0))), rfl, bel.frame _, fun h => by cases h⟩
theorem summaryMonoid_holds : Rows.SummaryMonoidUptoSaid :=
  OpenClaim.holds_of_cond 13 Try.f13 rfl rfl rfl rfl rfl rfl rfl ⟨rfl, rfl, rfl, rfl, rfl⟩ rfl rfl rfl rfl rfl (by kernel_rfl) Try.func13 (by kernel_rfl)
    (of_decide_eq_true (by kernel_rfl)) (by unfold Func.isWrapper; first | (rw [if_pos (by decide +kernel)]; kernel_rfl) | (rw [if_neg (by decide +kernel)]; exact ⟨rfl, rfl⟩))
    (fun os started H enc _ F => summaryMonoid_lifted os started H enc F)
#print axioms summaryMonoid_holds
end Go.Proofs.Ytenlkhlkohnmkaa
