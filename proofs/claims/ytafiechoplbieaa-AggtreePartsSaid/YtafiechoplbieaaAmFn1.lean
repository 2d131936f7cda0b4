/- The abstract machine over heaps without bound: a heap is a function, its blocks named by any number; what stands at a name is looked up among the facts. Operations and calls: what they say, and that it is so. -/
import Derived.Test.YtafiechoplbieaaAmJd
set_option linter.unusedVariables false
set_option linter.unusedSimpArgs false
set_option maxRecDepth 100000
namespace Go.AM
noncomputable section
open Go.RowKit

/-- A block is looked at. -/
structure Get (M : Nat → Blk) (b : Nat) (K : Blk → Prop) : Prop where
  run : K (M b)
theorem Get.at {M : Nat → Blk} {b : Nat} {K : Blk → Prop} {x : Blk} (h : M b = x) (k : K x) : Get M b K := ⟨by rw [h]; exact k⟩
/-- What is needed is gathered, and asked for at the end. -/
def Prog.runF : Prog → (Nat → Blk) → List Nat → Option Prop → (Val → Upd → List Nat → Option Prop → Prop) → Prop
  | .ret v u, _, r, o, K => K v u r o
  | .get b k, M, r, o, K => Get M b fun x => (k x).runF M (b :: r) o K
  | @Prog.need p _ k, M, r, o, K => k.runF M r (more o p) K
  | .fail, _, _, _, _ => False
theorem Prog.runF_ok : ∀ {p : Prog} {M : Nat → Blk} {r : List Nat} {o : Option Prop} {K : Val → Upd → List Nat → Option Prop → Prop}, p.runF M r o K →
    ∃ v u r' o', K v u r' o' ∧ (optP o' → optP o ∧ p.run M r fun v' u' r'' => v' = v ∧ u' = u ∧ r'' = r')
  | .ret v u, _, r, o, _, h => ⟨v, u, r, o, h, fun ho => ⟨ho, rfl, rfl, rfl⟩⟩
  | .get b k, M, r, o, K, h => Prog.runF_ok (p := k (M b)) h.run
  | @Prog.need p _ k, M, r, o, K, h => by
    obtain ⟨v, u, r', o', h1, h2⟩ := Prog.runF_ok (p := k) h
    exact ⟨v, u, r', o', h1, fun ho => ⟨(more_ok (h2 ho).1).1, (more_ok (h2 ho).1).2, (h2 ho).2⟩⟩
  | .fail, _, _, _, _, h => h.elim
theorem Prog.runF_need {p : Prog} {M : Nat → Blk} {r : List Nat} {G : Val → Upd → List Nat → Prop} (h : p.runF M r none fun v u r o => needK o (G v u r)) : ∃ v u r', p.run M r (fun v' u' r'' => v' = v ∧ u' = u ∧ r'' = r') ∧ G v u r' := by
  obtain ⟨v, u, r', o, h1, h2⟩ := Prog.runF_ok h
  obtain ⟨h3, h4⟩ := needK_ok h1
  exact ⟨v, u, r', (h2 h3).2, h4⟩
/-- Does an operation make a block? -/
def newB : Op → Bool
  | .alloc _ | .box .. | .buildSlice .. | .makeMap .. | .makeSlice .. => true
  | .call c => match c.callee with
    | .builtin .append => true
    | _ => false
  | _ => false
/-- A row is handed on to be read alone. -/
def lendV (M : Nat → Blk) (u : Upd) (r : List Nat) (v : Val) (K : Upd → List Nat → Val → Prop) : Prop :=
  match v with
  | .row b n => Get M b fun x => match x with
    | .row e sz m g _ => Need (n ≤ m) (K (u ++ [(b, .row e sz m g m)]) (b :: r) (.ext sz n g))
    | _ => K u r (.row b n)
  | v => K u r v
def lendL (M : Nat → Blk) (u : Upd) (r : List Nat) : List Val → (Upd → List Nat → List Val → Prop) → Prop
  | [], K => K u r []
  | v :: vs, K => lendV M u r v fun u r v' => lendL M u r vs fun u r vs' => K u r (v' :: vs')
def lendA (M : Nat → Blk) (u : Upd) (r : List Nat) (v : Val) (K : Upd → List Nat → Val → Prop) : Prop :=
  match v with
  | .agg cs => lendL M u r cs fun u r cs' => K u r (.agg cs')
  | v => lendV M u r v K
def putsF (M : Nat → Blk) : List Operand → Upd → List Nat → List Val → (Upd → List Nat → List Val → Prop) → Prop
  | [], u, r, tm, K => K u r tm
  | .tmp t :: xs, u, r, tm, K => getK tm t fun v => lendA M u r v fun u' r' v' => putK tm t v' fun tm' => putsF M xs u' r' tm' K
  | _ :: xs, u, r, tm, K => putsF M xs u r tm K

/-- What is known of a call that makes blocks below N' alone. -/
structure CallC (P : Program) (f : FuncId) (az : List Val) (N : Nat) (M : Nat → Blk) (v : Val) (u : Upd) (r : List Nat) (N' : Nat) : Prop where
  fn : ∃ fn c, P.funcs[f]? = some fn ∧ (fn.name == "runtime.NumGoroutine") = false ∧ fn.body = some c
  le : N ≤ N'
  run : ∀ (w0 : World) (S : Nat → Prop) (φ0 : Prot) (ι : Map) (φ : Prot) (w : World) (cargs : Array Value) (H' : Nat → Blk), Inv w0 S φ0 ι φ H' w → TmOk ι φ az cargs → (∀ b ∈ r, H' b = M b) → (∀ b, N ≤ b → b < N' → ι b = none) → (∃ B, ∀ b, B ≤ b → ι b = none) →
    Calls P f cargs w fun e w' => ∃ cv ι' φ', e = .returned cv ∧ Rel ι' φ' v cv ∧ Inv w0 S φ0 ι' φ' (applyF H' u) w' ∧ MapLe ι ι' ∧ ProtLe φ φ' ∧ ∀ b, b < N ∨ N' ≤ b → ι' b = ι b
/-- Arguments, some of them rows that are handed on to be read alone. -/
inductive LendF (M : Nat → Blk) : List Val → List Val → Upd → List Nat → Prop
  | nil : LendF M [] [] [] []
  | keep {v : Val} {vs vs' : List Val} {u : Upd} {r : List Nat} (h : LendF M vs vs' u r) : LendF M (v :: vs) (v :: vs') u r
  | row {b n m sz pr : Nat} {e : TypeId} {g : Nat → List Val} {vs vs' : List Val} {u : Upd} {r : List Nat} (hb : M b = .row e sz m g pr) (hn : n ≤ m) (h : LendF M vs vs' u r) : LendF M (.row b n :: vs) (.ext sz n g :: vs') ((b, .row e sz m g m) :: u) (b :: r)
inductive CalledF (P : Program) (f : FuncId) (az : List Val) (N : Nat) (M : Nat → Blk) (K : Val → Upd → List Nat → Nat → Prop) : Prop
  | mk (v : Val) (u : Upd) (r : List Nat) (N' : Nat) (hr : CallC P f az N M v u r N') (hk : K v u r N')
  | lent (az' : List Val) (u0 : Upd) (r0 : List Nat) (hl : LendF M az az' u0 r0) (v : Val) (u : Upd) (N' : Nat) (hr : CallC P f az' N M v u [] N') (hk : K v (u0 ++ u) r0 N')
def callF (P : Program) (fv : Val) (xs : List Val) (N : Nat) (M : Nat → Blk) (K : Val → Upd → List Nat → Nat → Prop) : Prop :=
  match fv with
  | .fn f fs cs => appK fs xs fun a1 => appK a1 cs fun az => CalledF P f az N M K
  | _ => False
def updF : Upd → (Nat → Blk) → ((Nat → Blk) → Prop) → Prop
  | [], M, K => K M
  | (b, x) :: u, M, K => updF u (setH M b x) K
theorem updF_eq : ∀ (u : Upd) (M : Nat → Blk) (K : (Nat → Blk) → Prop), updF u M K = K (applyF M u)
  | [], _, _ => rfl
  | (b, x) :: u, M, K => updF_eq u (setH M b x) K
def plainF (T : TypeId → TD) (o : Oper) (tm : List Val) (N : Nat) (M : Nat → Blk) (K : Val → Upd → List Nat → Nat → Prop) : Prop :=
  putsF M (putsOf o.op) [] [] tm fun u0 r0 tm' => updF u0 M fun M1 => (opP T o tm' N).runF M1 r0 none fun v u r o' => needK o' <| appUK u0 u fun u => bumpK (newB o.op) N fun N' => K v u r N'
where
  bumpK (b : Bool) (N : Nat) (K : Nat → Prop) : Prop := match b with
    | true => K (N + 1)
    | false => K N
  appUK {α : Type} : Upd → Upd → (Upd → α) → α
    | [], u, K => K u
    | x :: l, u, K => appUK l u fun l' => K (x :: l')
theorem appUK_eq {α : Type} : ∀ (l u : Upd) (K : Upd → α), plainF.appUK l u K = K (l ++ u)
  | [], _, _ => rfl
  | x :: l, u, K => appUK_eq l u fun l' => K (x :: l')
def opF (P : Program) (T : TypeId → TD) (o : Oper) (tm : List Val) (N : Nat) (M : Nat → Blk) (K : Val → Upd → List Nat → Nat → Prop) : Prop :=
  match o.op with
  | .call c => match c.callee with
    | .value x => evK tm x fun fv => evsK tm c.args.toList fun xs => callF P fv xs N M K
    | _ => plainF T o tm N M K
  | _ => plainF T o tm N M K

/-! ### it is so -/
/-- What is known of an operation, where names are free from somewhere on. -/
def FactF (P : Program) (o : Oper) (tm : List Val) (H : Nat → Blk) (n n' : Nat) (v : Val) (u : Upd) (r : List Nat) : Prop :=
  ∀ (a : Act) (w w0 : World) (S : Nat → Prop) (φ0 : Prot) (ι : Map) (φ : Prot) (H' : Nat → Blk) (tm' : List Val) (next : Act → World → Prop) (Q : Exit → Act → World → Prop),
    Inv w0 S φ0 ι φ H' w → TmOk ι φ tm' a.tmps → (∀ x ∈ o.op.operands, evV tm' x = evV tm x) → (∀ b ∈ r, H' b = H b) → (∀ b, n ≤ b → b < n' → ι b = none) → (∃ B, ∀ b, B ≤ b → ι b = none) →
    (∀ cv w' ι' φ', Rel ι' φ' v cv → Inv w0 S φ0 ι' φ' (applyF H' u) w' → MapLe ι ι' → ProtLe φ φ' → (∀ b, b < n ∨ n' ≤ b → ι' b = ι b) → next (a.put o.dst cv) w') → o.wp P a w next Q
theorem Fact.toF {P : Program} {o : Oper} {tm : List Val} {H : Nat → Blk} {n n' : Nat} {v : Val} {u : Upd} {r : List Nat} (h : Fact P o tm H n n' v u r) : FactF P o tm H n n' v u r :=
  fun a w w0 S φ0 ι φ H' tm' next Q hI ht hop hr hf _ hn => h a w w0 S φ0 ι φ H' tm' next Q hI ht hop hr hf hn
theorem builtin_ren (T : TypeId → TD) {b : Builtin} (h : b ≠ .append) (ts : List TypeId) (xs : List Val) (n m : Nat) : builtinP T b ts n xs = builtinP T b ts m xs := by
  unfold builtinP
  split <;> first
    | rfl
    | exact absurd rfl h
theorem newB_ren (T : TypeId → TD) {o : Oper} (h : newB o.op = false) (tm : List Val) (n m : Nat) : opP T o tm n = opP T o tm m := by
  obtain ⟨dst, op, ty, pos, after, guard⟩ := o
  cases op <;> first
    | rfl
    | (exfalso; simp [newB] at h; done)
    | skip
  case makeFunc f a c => cases f <;> rfl
  case call c =>
    simp only [opP]
    simp only [newB] at h
    cases hc : c.callee with
    | builtin b =>
      have hb : b ≠ .append := fun e => by rw [hc, e] at h; cases h
      simp only [builtin_ren T hb _ _ n m]
    | _ => rfl
theorem free_name (u : Upd) : ∃ z, ∀ x, (z, x) ∉ u := by
  have key : ∀ u : Upd, ∃ z, ∀ b x, (b, x) ∈ u → b < z := fun u => by
    induction u with
    | nil => exact ⟨0, fun b x h => by simp at h⟩
    | cons p u ih =>
      obtain ⟨z, hz⟩ := ih
      refine ⟨max z (p.1 + 1), fun b x h => ?_⟩
      rcases List.mem_cons.1 h with e | h
      · subst e; simp only; omega
      · have := hz b x h; omega
  obtain ⟨z, hz⟩ := key u
  exact ⟨z, fun x hx => Nat.lt_irrefl _ (hz z x hx)⟩
section
variable {P : Program} {T : TypeId → TD} {w0 w : World} {S : Nat → Prop} {φ0 : Prot} {ι : Map} {φ : Prot} {H : Nat → Blk}
/-- A row is raised: it is written no more. -/
theorem Inv.raise_row (hI : Inv w0 S φ0 ι φ H w) {b n sz pr : Nat} {e : TypeId} {g : Nat → List Val} (hb : H b = .row e sz n g pr) : Inv w0 S φ0 ι φ (setH H b (.row e sz n g n)) w := by
  have hB := hI.sim.blk b
  rw [hb] at hB
  have hB' := hB
  obtain ⟨gg, c, arr, e1, hh, hz, hs, hnc, hc, hpr, hl, hr, h1, hf⟩ := hB
  refine hI.lend (x := .row e sz n g n) e1 (by rw [hb]; simp) (.refl _) (fun _ _ => rfl) (fun a v ha _ => hI.sim.prot a v ha) ⟨gg, c, arr, e1, hh, hz, hs, hnc, hc, Nat.le_refl _, hl, hr, h1, fun off sp ho => hf off sp ?_⟩
  have : pr * sz ≤ n * sz := Nat.mul_le_mul_right _ hpr
  omega
theorem applyF_app (H : Nat → Blk) : ∀ (u u' : Upd), applyF H (u ++ u') = applyF (applyF H u) u'
  | [], _ => rfl
  | (b, x) :: u, u' => applyF_app (setH H b x) u u'
/-- Updates that raise rows alone. -/
def Raises (M : Nat → Blk) (u : Upd) : Prop := ∀ b x, (b, x) ∈ u → ∃ e sz m g pr, M b = .row e sz m g pr ∧ x = .row e sz m g m
theorem Raises.look {M H : Nat → Blk} : ∀ {u : Upd}, Raises M u → ∀ b, (applyF H u b = H b) ∨ ∃ e sz m g pr, M b = .row e sz m g pr ∧ applyF H u b = .row e sz m g m
  | [], _, b => .inl rfl
  | (c, y) :: u, h, b => by
    rcases Raises.look (H := setH H c y) (fun b x hx => h b x (List.mem_cons_of_mem _ hx)) b with e | e
    · by_cases hc : b = c
      · subst hc
        obtain ⟨e', sz, m, g, pr, h1, h2⟩ := h b y (List.mem_cons_self ..)
        refine .inr ⟨e', sz, m, g, pr, h1, ?_⟩
        show applyF (setH H b y) u b = _
        rw [e]; unfold setH; rw [if_pos rfl, h2]
      · refine .inl ?_
        show applyF (setH H c y) u b = _
        rw [e]; unfold setH; rw [if_neg hc]
    · exact .inr e
/-- Rows that are handed on: what is known, whatever came ahead. -/
structure LendOk (M : Nat → Blk) (u : Upd) (r : List Nat) (u' : Upd) (r' : List Nat) (v v' : Val) : Prop where
  reads : ∀ b ∈ r, b ∈ r'
  more : ∃ d : Upd, u' = u ++ d ∧ Raises M d ∧ (∀ b x, (b, x) ∈ d → b ∈ r') ∧ ∀ (w0 w : World) (S : Nat → Prop) (φ0 : Prot) (ι : Map) (φ : Prot) (H : Nat → Blk) (x : Value), (∀ b ∈ r', H b = M b ∨ ∃ e sz m g pr, M b = .row e sz m g pr ∧ H b = .row e sz m g m) → Inv w0 S φ0 ι φ H w → Rel ι φ v x →
    ∃ φ', ProtLe φ φ' ∧ Inv w0 S φ0 ι φ' (applyF H d) w ∧ Rel ι φ' v' x
theorem LendOk.same (M : Nat → Blk) (u : Upd) (r : List Nat) (v : Val) : LendOk M u r u r v v :=
  ⟨fun _ h => h, [], by simp, fun _ _ h => by simp at h, fun _ _ h => by simp at h, fun _ _ _ _ _ φ _ _ _ hI hv => ⟨φ, .refl _, hI, hv⟩⟩
theorem Inv.lend_raise (hI : Inv w0 S φ0 ι φ H w) {b n m sz pr : Nat} {e : TypeId} {g : Nat → List Val} (hb : H b = .row e sz m g pr) (hn : n ≤ m) {x : Value} (hv : Rel ι φ (.row b n) x) :
    ∃ φ', ProtLe φ φ' ∧ Inv w0 S φ0 ι φ' (setH H b (.row e sz m g m)) w ∧ Rel ι φ' (.ext sz n g) x := by
  obtain ⟨gg, c, hm, hnc, rfl⟩ := hv.row_
  exact (hI.raise_row hb).lend_row hm (by unfold setH; rw [if_pos rfl]) hn hnc
theorem lendV_ok {M : Nat → Blk} {u : Upd} {r : List Nat} {v : Val} {K : Upd → List Nat → Val → Prop} (h : lendV M u r v K) : ∃ u' r' v', K u' r' v' ∧ LendOk M u r u' r' v v' := by
  unfold lendV at h
  split at h
  · rename_i b n
    have h := h.run
    split at h
    · rename_i e sz m g pr hb
      refine ⟨_, _, _, h.rest, fun _ hb => List.mem_cons_of_mem _ hb, [(b, .row e sz m g m)], rfl, fun c x hx => ?_, fun c x hx => ?_, fun w0 w S φ0 ι φ H x hr hI hv => ?_⟩
      · simp only [List.mem_singleton, Prod.mk.injEq] at hx
        obtain ⟨rfl, rfl⟩ := hx
        exact ⟨e, sz, m, g, pr, hb, rfl⟩
      · simp only [List.mem_singleton, Prod.mk.injEq] at hx
        obtain ⟨rfl, rfl⟩ := hx
        exact List.mem_cons_self ..
      · rcases hr b (List.mem_cons_self ..) with h1 | ⟨e', sz', m', g', pr', h1, h2⟩
        · exact hI.lend_raise (h1.trans hb) h.here hv
        · rw [hb] at h1
          injection h1 with h1 h3 h4 h5 h6
          subst h1; subst h3; subst h4; subst h5
          exact hI.lend_raise h2 h.here hv
    · exact ⟨_, _, _, h, .same _ _ _ _⟩
  · exact ⟨_, _, _, h, .same _ _ _ _⟩
structure LendOkL (M : Nat → Blk) (u : Upd) (r : List Nat) (u' : Upd) (r' : List Nat) (vs vs' : List Val) : Prop where
  len : vs'.length = vs.length
  reads : ∀ b ∈ r, b ∈ r'
  more : ∃ d : Upd, u' = u ++ d ∧ Raises M d ∧ (∀ b x, (b, x) ∈ d → b ∈ r') ∧ ∀ (w0 w : World) (S : Nat → Prop) (φ0 : Prot) (ι : Map) (φ : Prot) (H : Nat → Blk) (xs : Nat → Value), (∀ b ∈ r', H b = M b ∨ ∃ e sz m g pr, M b = .row e sz m g pr ∧ H b = .row e sz m g m) → Inv w0 S φ0 ι φ H w → (∀ i, i < vs.length → Rel ι φ (vs.getD i .und) (xs i)) →
    ∃ φ', ProtLe φ φ' ∧ Inv w0 S φ0 ι φ' (applyF H d) w ∧ ∀ i, i < vs.length → Rel ι φ' (vs'.getD i .und) (xs i)
theorem agree_step {M H : Nat → Blk} {r : List Nat} {d : Upd} (hd : Raises M d) (h : ∀ b ∈ r, H b = M b ∨ ∃ e sz m g pr, M b = .row e sz m g pr ∧ H b = .row e sz m g m) : ∀ b ∈ r, applyF H d b = M b ∨ ∃ e sz m g pr, M b = .row e sz m g pr ∧ applyF H d b = .row e sz m g m := fun b hb => by
  rcases hd.look (H := H) b with e | e
  · rw [e]; exact h b hb
  · exact .inr e
theorem lendL_ok {M : Nat → Blk} : ∀ {vs : List Val} {u : Upd} {r : List Nat} {K : Upd → List Nat → List Val → Prop}, lendL M u r vs K → ∃ u' r' vs', K u' r' vs' ∧ LendOkL M u r u' r' vs vs'
  | [], u, r, K, h => ⟨u, r, [], h, rfl, fun _ h => h, [], by simp, fun _ _ h => by simp at h, fun _ _ h => by simp at h, fun _ _ _ _ _ φ _ _ _ hI _ => ⟨φ, .refl _, hI, fun i hi => absurd hi (by simp)⟩⟩
  | v :: vs, u, r, K, h => by
    obtain ⟨u1, r1, v', h1, k1, d1, e1, q1, m1, l1⟩ := lendV_ok h
    obtain ⟨u2, r2, vs', h2, len2, k2, d2, e2, q2, m2, l2⟩ := lendL_ok h1
    refine ⟨u2, r2, v' :: vs', h2, by simp [len2], fun b hb => k2 b (k1 b hb), d1 ++ d2, by rw [e2, e1, List.append_assoc], fun b x hx => ?_, fun b x hx => ?_, fun w0 w S φ0 ι φ H xs hr hI hv => ?_⟩
    · rcases List.mem_append.1 hx with hx | hx
      · exact q1 b x hx
      · exact q2 b x hx
    · rcases List.mem_append.1 hx with hx | hx
      · exact k2 b (m1 b x hx)
      · exact m2 b x hx
    · obtain ⟨φ1, p1, I1, R1⟩ := l1 w0 w S φ0 ι φ H (xs 0) (fun b hb => hr b (k2 b hb)) hI (hv 0 (by simp))
      obtain ⟨φ2, p2, I2, R2⟩ := l2 w0 w S φ0 ι φ1 (applyF H d1) (fun i => xs (i + 1)) (agree_step q1 hr) I1 (fun i hi => (hv (i + 1) (by simpa using hi)).mono (.refl _) p1)
      refine ⟨φ2, p1.trans p2, by rw [applyF_app]; exact I2, fun i hi => ?_⟩
      cases i with
      | zero => exact R1.mono (.refl _) p2
      | succ i => exact R2 i (by simpa using hi)
theorem lendA_ok {M : Nat → Blk} {u : Upd} {r : List Nat} {v : Val} {K : Upd → List Nat → Val → Prop} (h : lendA M u r v K) : ∃ u' r' v', K u' r' v' ∧ LendOk M u r u' r' v v' ∧ (v = .tup [] → v' = .tup []) := by
  unfold lendA at h
  split at h
  · rename_i cs
    obtain ⟨u', r', cs', h1, len, k1, d, e, q, m, l⟩ := lendL_ok h
    refine ⟨u', r', _, h1, ⟨k1, d, e, q, m, fun w0 w S φ0 ι φ H x hr hI hv => ?_⟩, fun e => by cases e⟩
    obtain ⟨us, rfl, hs, hone, hrel⟩ := hv.agg_
    obtain ⟨φ', p, I, R⟩ := l w0 w S φ0 ι φ H (fun i => us.getD i undef) hr hI hrel
    exact ⟨φ', p, I, .agg _ _ (by rw [len, hs]) (fun i hi => hone i (by rwa [len] at hi)) (fun i hi => R i (by rwa [len] at hi))⟩
  · by_cases hv : v = .tup []
    · subst hv
      exact ⟨u, r, .tup [], h, .same _ _ _ _, fun _ => rfl⟩
    · obtain ⟨u', r', v', h1, h2⟩ := lendV_ok h
      exact ⟨u', r', v', h1, h2, fun e => absurd e hv⟩
/-- Operands lent. -/
structure LendOkT (M : Nat → Blk) (u : Upd) (r : List Nat) (u' : Upd) (r' : List Nat) (xs : List Operand) (tm tm' : List Val) : Prop where
  reads : ∀ b ∈ r, b ∈ r'
  more : ∃ d : Upd, u' = u ++ d ∧ Raises M d ∧ (∀ b x, (b, x) ∈ d → b ∈ r') ∧ ∀ (w0 w : World) (S : Nat → Prop) (φ0 : Prot) (ι : Map) (φ : Prot) (H : Nat → Blk) (tx : List Val) (us : Array Value), (∀ b ∈ r', H b = M b ∨ ∃ e sz m g pr, M b = .row e sz m g pr ∧ H b = .row e sz m g m) → Inv w0 S φ0 ι φ H w → TmOk ι φ tx us → (∀ x ∈ xs, evV tx x = evV tm x) →
    ∃ φ' tx', ProtLe φ φ' ∧ Inv w0 S φ0 ι φ' (applyF H d) w ∧ TmOk ι φ' tx' us ∧ ∀ x, evV tx x = evV tm x → evV tx' x = evV tm' x
theorem putsF_ok {M : Nat → Blk} : ∀ {xs : List Operand} {u : Upd} {r : List Nat} {tm : List Val} {K : Upd → List Nat → List Val → Prop}, putsF M xs u r tm K → ∃ u' r' tm', K u' r' tm' ∧ LendOkT M u r u' r' xs tm tm'
  | [], u, r, tm, K, h => ⟨u, r, tm, h, fun _ h => h, [], by simp, fun _ _ h => by simp at h, fun _ _ h => by simp at h, fun _ _ _ _ _ φ _ tx _ _ hI ht _ => ⟨φ, tx, .refl _, hI, ht, fun _ h => h⟩⟩
  | .tmp t :: xs, u, r, tm, K, h => by
    unfold putsF at h
    rw [getK_eq] at h
    obtain ⟨u1, r1, v', h1, ⟨k1, d1, e1, q1, m1, l1⟩, htup⟩ := lendA_ok h
    rw [putK_eq] at h1
    obtain ⟨u2, r2, tm', h2, k2, d2, e2, q2, m2, l2⟩ := putsF_ok h1
    refine ⟨u2, r2, tm', h2, fun b hb => k2 b (k1 b hb), d1 ++ d2, by rw [e2, e1, List.append_assoc], fun b x hx => ?_, fun b x hx => ?_, fun w0 w S φ0 ι φ H tx us hb hI ht hop => ?_⟩
    · rcases List.mem_append.1 hx with hx | hx
      · exact q1 b x hx
      · exact q2 b x hx
    · rcases List.mem_append.1 hx with hx | hx
      · exact k2 b (m1 b x hx)
      · exact m2 b x hx
    · have ht0 := hop (.tmp t) (by simp)
      rw [evV_tmp, evV_tmp] at ht0
      have hrel := ht.get t
      rw [ht0] at hrel
      obtain ⟨φ1, p1, I1, R1⟩ := l1 w0 w S φ0 ι φ H _ (fun b hb' => hb b (k2 b hb')) hI hrel
      have ht1 : TmOk ι φ1 (tx.set t v') us := by
        refine ⟨by rw [List.length_set]; exact ht.len, fun i hi => ?_⟩
        rw [List.length_set] at hi
        by_cases e : t = i
        · subst e
          rw [List.getD_eq_getElem?_getD, List.getElem?_set_self hi]
          exact R1
        · rw [List.getD_eq_getElem?_getD, List.getElem?_set_ne e, ← List.getD_eq_getElem?_getD]
          exact (ht.rel i hi).mono (.refl _) p1
      have same : ∀ x, evV tx x = evV tm x → evV (tx.set t v') x = evV (tm.set t v') x := fun x hx => by
        cases x with
        | tmp s =>
          rw [evV_tmp, evV_tmp] at hx ⊢
          rw [getD_set, getD_set]
          by_cases e : t = s
          · subst e
            by_cases l1 : t < tx.length <;> by_cases l2 : t < tm.length
            · simp [l1, l2]
            · have hz : tm.getD t (.tup []) = .tup [] := by simp [List.getD_eq_getElem?_getD, List.getElem?_eq_none (Nat.le_of_not_lt l2)]
              simp only [l1, l2, and_true, and_false, if_true, if_false, hz]
              exact htup hz
            · have hz : tx.getD t (.tup []) = .tup [] := by simp [List.getD_eq_getElem?_getD, List.getElem?_eq_none (Nat.le_of_not_lt l1)]
              rw [hz] at ht0
              simp only [l1, l2, and_true, and_false, if_true, if_false, hz]
              exact (htup ht0.symm).symm
            · simp only [l1, l2, and_false, if_false]; exact hx
          · simp only [e, false_and, if_false]; exact hx
        | _ => rfl
      obtain ⟨φ2, tx', p2, I2, T2, hev⟩ := l2 w0 w S φ0 ι φ1 (applyF H d1) (tx.set t v') us (agree_step q1 hb) I1 ht1 (fun x hx => same x (hop x (List.mem_cons_of_mem _ hx)))
      exact ⟨φ2, tx', p1.trans p2, by rw [applyF_app]; exact I2, T2, fun x hx => hev x (same x hx)⟩
  | .const c :: xs, u, r, tm, K, h => by
    obtain ⟨u', r', tm', h1, k, d, e, q, m, l⟩ := putsF_ok (xs := xs) h
    exact ⟨u', r', tm', h1, k, d, e, q, m, fun w0 w S φ0 ι φ H tx us hb hI ht hop => l w0 w S φ0 ι φ H tx us hb hI ht fun x hx => hop x (List.mem_cons_of_mem _ hx)⟩
  | .global c :: xs, u, r, tm, K, h => by
    obtain ⟨u', r', tm', h1, k, d, e, q, m, l⟩ := putsF_ok (xs := xs) h
    exact ⟨u', r', tm', h1, k, d, e, q, m, fun w0 w S φ0 ι φ H tx us hb hI ht hop => l w0 w S φ0 ι φ H tx us hb hI ht fun x hx => hop x (List.mem_cons_of_mem _ hx)⟩
  | .func c :: xs, u, r, tm, K, h => by
    obtain ⟨u', r', tm', h1, k, d, e, q, m, l⟩ := putsF_ok (xs := xs) h
    exact ⟨u', r', tm', h1, k, d, e, q, m, fun w0 w S φ0 ι φ H tx us hb hI ht hop => l w0 w S φ0 ι φ H tx us hb hI ht fun x hx => hop x (List.mem_cons_of_mem _ hx)⟩
theorem plainF_ok (hT : TOk P T) {o : Oper} {tm : List Val} {N : Nat} {M : Nat → Blk} {K : Val → Upd → List Nat → Nat → Prop} (h : plainF T o tm N M K) : ∃ v u r N', K v u r N' ∧ N ≤ N' ∧ Fact P o tm M N N' v u r := by
  obtain ⟨u0, r0, tm', h1, hk0, d, ed, q, md, l⟩ := putsF_ok h
  rw [List.nil_append] at ed; subst ed
  rw [updF_eq] at h1
  obtain ⟨v, u, r, h2, h3⟩ := Prog.runF_need (G := fun v u r => plainF.appUK u0 u fun u => plainF.bumpK (newB o.op) N fun N' => K v u r N') h1
  rw [appUK_eq] at h3
  unfold plainF.bumpK at h3
  obtain ⟨s, hs, h0⟩ := Prog.run_from _ _ _ _ _ _ h2
  have key : ∀ (nid N' : Nat), ((∃ x, (nid, x) ∈ u) → N ≤ nid ∧ nid < N') → (∀ b, b < N ∨ N' ≤ b → b = nid → ∀ x, (nid, x) ∉ u) → (∀ tx, opP T o tx N = opP T o tx nid) → Fact P o tm M N N' v (u0 ++ u) r := by
    intro nid N' hnid hout hren a w w0 S φ0 ι φ H' tx next Q hI ht hop hr hfree hnext
    have hr0 : ∀ b ∈ r0, H' b = M b := fun b hb => hr b (by rw [hs]; exact List.mem_append_right _ hb)
    obtain ⟨φ1, tx', p1, I1, T1, hev⟩ := l w0 w S φ0 ι φ H' tx a.tmps (fun b hb => .inl (hr0 b hb)) hI ht fun x hx => hop x (puts_sub o x hx)
    have hsame : ∀ b, H' b = M b → applyF H' u0 b = applyF M u0 b := fun b hb => by
      by_cases hm : b ∈ u0.map Prod.fst
      · exact applyF_on u0 H' M hm
      · rw [applyF_off u0 H' hm, applyF_off u0 M hm]; exact hb
    have h4 := h0 []
    rw [List.append_nil] at h4
    have h' : Does (opP T o tx' nid) (applyF H' u0) [] v u s := by
      unfold Does
      rw [← hren, opP_congr T (tm := tm') (tm' := tx') _ fun x hx => hev x (hop x hx)]
      exact Prog.run_local _ _ _ _ _ _ _ (fun b hb => hsame b (hr b (by rw [hs]; exact List.mem_append_left _ hb))) h4
    obtain ⟨nx, cv, w', ι', φ', hrun, hnx, hv, hI', hm, hp', hf⟩ := (op_sound hT I1 T1 (fun hx => hfree _ (hnid hx).1 (hnid hx).2) h').ex
    have := hnext cv w' ι' φ' hv (by rw [applyF_app]; exact hI') hm (p1.trans hp') fun b hb => hf b fun e => hout b hb e
    unfold Oper.wp
    rw [hrun]
    rcases hnx with rfl | ⟨rfl, rfl⟩
    · exact this
    · exact this
  cases hn : newB o.op with
  | true =>
    rw [hn] at h3
    exact ⟨_, _, _, _, h3, by omega, key N (N + 1) (fun _ => by omega) (fun b hb e => by omega) fun _ => rfl⟩
  | false =>
    rw [hn] at h3
    obtain ⟨z, hz⟩ := free_name u
    exact ⟨_, _, _, _, h3, Nat.le_refl _, key z N (fun ⟨x, hx⟩ => absurd hx (hz x)) (fun _ _ _ x => hz x) fun tx => newB_ren T hn tx N z⟩
theorem LendF.ok {M : Nat → Blk} {az az' : List Val} {u : Upd} {r : List Nat} (h : LendF M az az' u r) : az'.length = az.length ∧ Raises M u ∧ (∀ b x, (b, x) ∈ u → b ∈ r) ∧ ∀ (w0 w : World) (S : Nat → Prop) (φ0 : Prot) (ι : Map) (φ : Prot) (H : Nat → Blk) (xs : Nat → Value), (∀ b ∈ r, H b = M b ∨ ∃ e sz m g pr, M b = .row e sz m g pr ∧ H b = .row e sz m g m) → Inv w0 S φ0 ι φ H w → (∀ i, i < az.length → Rel ι φ (az.getD i .und) (xs i)) →
    ∃ φ', ProtLe φ φ' ∧ Inv w0 S φ0 ι φ' (applyF H u) w ∧ ∀ i, i < az.length → Rel ι φ' (az'.getD i .und) (xs i) := by
  induction h with
  | nil => exact ⟨rfl, fun _ _ h => by simp at h, fun _ _ h => by simp at h, fun _ _ _ _ _ φ _ _ _ hI _ => ⟨φ, .refl _, hI, fun i hi => absurd hi (by simp)⟩⟩
  | keep h ih =>
    obtain ⟨i1, i2, i3, i4⟩ := ih
    refine ⟨by simp [i1], i2, i3, fun w0 w S φ0 ι φ H xs hr hI hv => ?_⟩
    obtain ⟨φ', p, I, R⟩ := i4 w0 w S φ0 ι φ H (fun i => xs (i + 1)) hr hI (fun i hi => hv (i + 1) (by simpa using hi))
    refine ⟨φ', p, I, fun i hi => ?_⟩
    cases i with
    | zero => exact (hv 0 (by simp)).mono (.refl _) p
    | succ i => exact R i (by simpa using hi)
  | @row b n m sz pr e g vs vs' u r hb hn h ih =>
    obtain ⟨i1, i2, i3, i4⟩ := ih
    have hd : Raises M [(b, .row e sz m g m)] := fun c x hx => by
      simp only [List.mem_singleton, Prod.mk.injEq] at hx
      obtain ⟨rfl, rfl⟩ := hx
      exact ⟨e, sz, m, g, pr, hb, rfl⟩
    refine ⟨by simp [i1], fun c x hx => ?_, fun c x hx => ?_, fun w0 w S φ0 ι φ H xs hr hI hv => ?_⟩
    · rcases List.mem_cons.1 hx with hx | hx
      · exact hd c x (List.mem_singleton.2 hx)
      · exact i2 c x hx
    · rcases List.mem_cons.1 hx with hx | hx
      · injection hx with e1 _; subst e1; exact List.mem_cons_self ..
      · exact List.mem_cons_of_mem _ (i3 c x hx)
    · have h1 : ∃ pr', H b = .row e sz m g pr' := by
        rcases hr b (List.mem_cons_self ..) with h1 | ⟨e', sz', m', g', pr', h1, h2⟩
        · exact ⟨pr, h1.trans hb⟩
        · rw [hb] at h1
          injection h1 with h1 h3 h4 h5 h6
          subst h1; subst h3; subst h4; subst h5
          exact ⟨_, h2⟩
      obtain ⟨pr', h1⟩ := h1
      obtain ⟨φ1, p1, I1, R1⟩ := hI.lend_raise h1 hn (hv 0 (by simp))
      obtain ⟨φ2, p2, I2, R2⟩ := i4 w0 w S φ0 ι φ1 (setH H b (.row e sz m g m)) (fun i => xs (i + 1)) (agree_step hd fun c hc => hr c (List.mem_cons_of_mem _ hc)) I1 (fun i hi => (hv (i + 1) (by simpa using hi)).mono (.refl _) p1)
      refine ⟨φ2, p1.trans p2, I2, fun i hi => ?_⟩
      cases i with
      | zero => exact R1.mono (.refl _) p2
      | succ i => exact R2 i (by simpa using hi)
/-- Entering a function, its arguments standing in the temporaries. -/
theorem enter_ok {o : Oper} {c : Call} {x : Operand} {f : FuncId} {fs cs tm tx : List Val} {a : Act} (ho : o.op = .call c) (hc : c.callee = .value x) (hfv : evV tm x = .fn f fs cs) (ht : TmOk ι φ tx a.tmps) (hop : ∀ x ∈ o.op.operands, evV tx x = evV tm x)
    (hfun : ∃ fn c, P.funcs[f]? = some fn ∧ (fn.name == "runtime.NumGoroutine") = false ∧ fn.body = some c) :
    ∃ cargs, TmOk ι φ (fs ++ c.args.toList.map (evV tm) ++ cs) cargs ∧ (execOp a.eval o).run P w = .ok (.enter f cargs) w := by
  obtain ⟨fn, code, hfn, hnm, hbody⟩ := hfun
  have hx : evV tx x = evV tm x := hop x (by rw [ho]; simp [Op.operands, Call.operands, hc])
  have hxs : c.args.toList.map (evV tx) = c.args.toList.map (evV tm) := evs_congr fun z hz => hop z (by rw [ho]; simp only [Op.operands, Call.operands, hc]; simp at hz ⊢; exact .inr hz)
  have hf := ht.ev x
  rw [hx, hfv] at hf
  obtain ⟨us, ws, hfe, hus, hws, hr1, hr2⟩ := hf.fn_
  refine ⟨us ++ c.args.map a.eval ++ ws, TmOk.app (TmOk.app ⟨hus, hr1⟩ ?_) ⟨hws, hr2⟩, ?_⟩
  · rw [← hxs]; exact ht.evs c.args
  · unfold execOp
    simp only [ho, resolve, hc, hfe, Deferred.ofValue, Sem.run_bind, Sem.run_pure, Result.andThen_ok, invoke, callFunc, program, Sem.run, hfn, hnm]
    simp [hbody]
theorem opF_ok (hT : TOk P T) {o : Oper} {tm : List Val} {N : Nat} {M : Nat → Blk} {K : Val → Upd → List Nat → Nat → Prop} (h : opF P T o tm N M K) : ∃ v u r N', K v u r N' ∧ N ≤ N' ∧ FactF P o tm M N N' v u r := by
  unfold opF at h
  split at h
  · rename_i c ho
    split at h
    · rename_i x hc
      rw [evK_eq, evsK_eq] at h
      unfold callF at h
      split at h
      case h_2 => exact h.elim
      rename_i f fs cs hfv
      rw [appK_eq, appK_eq] at h
      rcases h with ⟨v, u, r, N', hr, hk⟩ | ⟨az', u0, r0, hl, v, u, N', hr, hk⟩
      · refine ⟨v, u, r, N', hk, hr.le, ?_⟩
        intro a w w0 S φ0 ι φ H' tx next Q hI ht hop hrd hfree hbd hnext
        obtain ⟨cargs, hargs, hrun⟩ := enter_ok (w := w) ho hc hfv ht hop hr.fn
        unfold Oper.wp
        rw [hrun, Oper.upon_enter]
        refine (hr.run w0 S φ0 ι φ w cargs H' hI hargs hrd hfree hbd).mono fun e w' ⟨cv, ι', φ', he, hv, hI', hm, hp, hfr⟩ => ?_
        subst he
        exact hnext cv w' ι' φ' hv hI' hm hp hfr
      · refine ⟨v, u0 ++ u, r0, N', hk, hr.le, ?_⟩
        intro a w w0 S φ0 ι φ H' tx next Q hI ht hop hrd hfree hbd hnext
        obtain ⟨cargs, hargs, hrun⟩ := enter_ok (w := w) ho hc hfv ht hop hr.fn
        obtain ⟨len, _, _, hlend⟩ := hl.ok
        obtain ⟨φ1, p1, I1, R1⟩ := hlend w0 w S φ0 ι φ H' (fun i => cargs.getD i undef) (fun b hb => .inl (hrd b hb)) hI hargs.rel
        unfold Oper.wp
        rw [hrun, Oper.upon_enter]
        refine (hr.run w0 S φ0 ι φ1 w cargs _ I1 ⟨by rw [hargs.len, len], fun i hi => R1 i (by rwa [len] at hi)⟩ (fun b hb => by simp at hb) hfree hbd).mono fun e w' ⟨cv, ι', φ', he, hv, hI', hm, hp, hfr⟩ => ?_
        subst he
        exact hnext cv w' ι' φ' hv (by rw [applyF_app]; exact hI') hm (p1.trans hp) hfr
    · obtain ⟨v, u, r, N', h1, h2, h3⟩ := plainF_ok hT h; exact ⟨v, u, r, N', h1, h2, h3.toF⟩
  · obtain ⟨v, u, r, N', h1, h2, h3⟩ := plainF_ok hT h; exact ⟨v, u, r, N', h1, h2, h3.toF⟩
end
theorem setH_at (M : Nat → Blk) (b : Nat) (x : Blk) : setH M b x b = x := by unfold setH; rw [if_pos rfl]
theorem setH_off {M : Nat → Blk} {p b : Nat} {x y : Blk} (h : p ≠ b) (k : M p = y) : setH M b x p = y := by unfold setH; rw [if_neg h]; exact k
theorem setH_twice (M : Nat → Blk) (b : Nat) (x y : Blk) : setH (setH M b x) b y = setH M b y := by
  funext k; unfold setH; split <;> rfl
/-- rows that agree as far as they go -/
def RowLe (x y : Blk) : Prop := ∃ e sz n g g' pr, y = .row e sz n g pr ∧ x = .row e sz n g' pr ∧ ∀ i, i < n → g' i = g i
/-- A heap of which less is known. -/
def Less (A B : Nat → Blk) : Prop := ∀ b, A b = B b ∨ A b = .gone ∨ RowLe (A b) (B b)
theorem Less.refl (M : Nat → Blk) : Less M M := fun _ => .inl rfl
theorem Less.trans {A B C : Nat → Blk} (h : Less A B) (k : Less B C) : Less A C := fun b => by
  rcases h b with e | e | ⟨e, sz, n, g, g', pr, h1, h2, h3⟩
  · rw [e]; exact k b
  · exact .inr (.inl e)
  · rcases k b with f | f | ⟨e', sz', n', f, f', pr', k1, k2, k3⟩
    · exact .inr (.inr ⟨e, sz, n, g, g', pr, f.symm.trans h1, h2, h3⟩)
    · rw [h1] at f; cases f
    · rw [h1] at k2
      injection k2 with e1 e2 e3 e4 e5
      subst e1; subst e2; subst e3; subst e4; subst e5
      exact .inr (.inr ⟨e, sz, n, f, g', pr, k1, h2, fun i hi => (h3 i hi).trans (k3 i hi)⟩)
theorem Less.set {A B : Nat → Blk} (h : Less A B) (b : Nat) (x : Blk) : Less (setH A b x) (setH B b x) := fun c => by
  unfold setH
  by_cases e : c = b
  · rw [if_pos e, if_pos e]; exact .inl rfl
  · rw [if_neg e, if_neg e]; exact h c
theorem Less.row {A B : Nat → Blk} (h : Less A B) (b : Nat) {x y : Blk} (hr : RowLe x y) : Less (setH A b x) (setH B b y) := fun c => by
  unfold setH
  by_cases e : c = b
  · rw [if_pos e, if_pos e]; exact .inr (.inr hr)
  · rw [if_neg e, if_neg e]; exact h c
theorem Less.drop {A B : Nat → Blk} (h : Less A B) {b : Nat} (x : Blk) (hb : A b = .gone) : Less A (setH B b x) := fun c => by
  by_cases e : c = b
  · subst e; exact .inr (.inl hb)
  · unfold setH; rw [if_neg e]; exact h c
theorem Inv.less {w0 w : World} {S : Nat → Prop} {φ0 φ : Prot} {ι : Map} {H H' : Nat → Blk} (h : Inv w0 S φ0 ι φ H w) (hl : Less H' H) : Inv w0 S φ0 ι φ H' w := by
  have fix' : ∀ y, H' y ≠ .gone → H y ≠ .gone := fun y hy => by
    rcases hl y with e | e | ⟨e, sz, n, g, g', pr, h1, h2, h3⟩
    · rw [← e]; exact hy
    · exact absurd e hy
    · rw [h1]; simp
  refine ⟨⟨fun b => ?_, fun y y' g1 c1 c2 hy hy' e e' => h.sim.inj y y' g1 c1 c2 (fix' y hy) (fix' y' hy') e e', h.sim.prot⟩, h.keep, fun y g' c' hy e => h.own y g' c' (fix' y hy) e, h.new, h.le⟩
  rcases hl b with e | e | ⟨e, sz, n, g, g', pr, h1, h2, h3⟩
  · rw [e]; exact h.sim.blk b
  · rw [e]; trivial
  · have hB := h.sim.blk b
    rw [h1] at hB
    rw [h2]
    obtain ⟨gg, c, arr, e1, hh, hz, hs, hnc, hc, hpr, hlen, hr, ho, hf⟩ := hB
    exact ⟨gg, c, arr, e1, hh, hz, hs, hnc, hc, hpr, fun i hi => by rw [h3 i hi]; exact hlen i hi, fun i j hi hj => by rw [h3 i hi]; exact hr i j hi hj, ho, hf⟩
end
end Go.AM

