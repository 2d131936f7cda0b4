/- The machine over heaps that are functions: code, functions, contracts. -/
import Derived.Test.YtafiechoplbieaaAmFn2
import Derived.Test.YtafiechoplbieaaAmJd
import Derived.Test.YtafiechoplbieaaAmGL
set_option linter.unusedVariables false
set_option linter.unusedSimpArgs false
set_option maxRecDepth 100000
namespace Go.AM
noncomputable section
open Go.RowKit

section
variable {w0 w : World} {S : Nat → Prop} {φ0 φ : Prot} {ι : Map} {H H' : Nat → Blk}
/-- What is named stands below. -/
theorem Inv.fresh (h : Inv w0 S φ0 ι φ H w) {N : Nat} (hN : ∀ b, N ≤ b → ι b = none) : ∀ b, N ≤ b → H b = .gone := fun b hb => by
  by_cases hg : H b = .gone
  · exact hg
  · obtain ⟨g, c, e, _⟩ := (h.sim.blk b).place hg
    rw [hN b hb] at e; cases e
end
/-- What a state becomes for whom less is known of it. -/
def Weak (tm : List Val) (N : Nat) (M : Nat → Blk) (tm' : List Val) (N' : Nat) (M' : Nat → Blk) : Prop :=
  ∀ (w0 : World) (S : Nat → Prop) (φ0 : Prot) (ι0 : Map) (a : Act) (w : World), FSt w0 S φ0 ι0 N M tm a w → FSt w0 S φ0 ι0 N' M' tm' a w
/-- temporaries that are forgotten: those that 'm' does not name -/
def keepT : List Val → List Bool → List Val
  | [], _ => []
  | _ :: tm, [] => .und :: keepT tm []
  | _ :: tm, false :: m => .und :: keepT tm m
  | v :: tm, true :: m => v :: keepT tm m
theorem keepT_length : ∀ (tm : List Val) (m : List Bool), (keepT tm m).length = tm.length
  | [], _ => rfl
  | _ :: tm, [] => by simp [keepT, keepT_length tm]
  | _ :: tm, false :: m => by simp [keepT, keepT_length tm]
  | _ :: tm, true :: m => by simp [keepT, keepT_length tm]
theorem keepT_get : ∀ (tm : List Val) (m : List Bool) (i : Nat), i < tm.length → (keepT tm m).getD i .und = tm.getD i .und ∨ (keepT tm m).getD i .und = .und
  | [], _, i, h => absurd h (by simp)
  | v :: tm, [], 0, _ => .inr rfl
  | v :: tm, false :: m, 0, _ => .inr rfl
  | v :: tm, true :: m, 0, _ => .inl rfl
  | v :: tm, [], i + 1, h => by have := keepT_get tm [] i (by simpa using h); simpa [keepT] using this
  | v :: tm, false :: m, i + 1, h => by have := keepT_get tm m i (by simpa using h); simpa [keepT] using this
  | v :: tm, true :: m, i + 1, h => by have := keepT_get tm m i (by simpa using h); simpa [keepT] using this
theorem Weak.mk {tm : List Val} {N N' : Nat} {M M' : Nat → Blk} (m : List Bool) (hN : N ≤ N') (hM : Less M' M) : Weak tm N M (keepT tm m) N' M' := by
  intro w0 S φ0 ι0 a w ⟨ι, φ, hI, ht, hend, h0, hdf⟩
  refine ⟨ι, φ, hI.less hM, ⟨by rw [keepT_length]; exact ht.len, fun i hi => ?_⟩, fun b hb => hend b (by omega), h0, hdf⟩
  rw [keepT_length] at hi
  rcases keepT_get tm m i hi with e | e
  · rw [e]; exact ht.rel i hi
  · rw [e]; exact .und _
theorem Weak.less {tm : List Val} {N N' : Nat} {M M' : Nat → Blk} (hN : N ≤ N') (hM : Less M' M) : Weak tm N M tm N' M' := by
  intro w0 S φ0 ι0 a w ⟨ι, φ, hI, ht, hend, h0, hdf⟩
  exact ⟨ι, φ, hI.less hM, ht, fun b hb => hend b (by omega), h0, hdf⟩
theorem Weak.trans {tm tm' tm'' : List Val} {N N' N'' : Nat} {M M' M'' : Nat → Blk} (h : Weak tm N M tm' N' M') (k : Weak tm' N' M' tm'' N'' M'') : Weak tm N M tm'' N'' M'' :=
  fun w0 S φ0 ι0 a w hs => k w0 S φ0 ι0 a w (h w0 S φ0 ι0 a w hs)

abbrev KontF := Ex → List Val → Nat → (Nat → Blk) → Prop
/-- What a piece of code does. -/
structure HF (P : Program) (c : Code) (tm : List Val) (N : Nat) (M : Nat → Blk) (K : KontF) : Prop where
  run : ∀ (w0 : World) (S : Nat → Prop) (φ0 : Prot) (ι0 : Map) (Q : Exit → Act → World → Prop) (a : Act) (w : World), FSt w0 S φ0 ι0 N M tm a w → (∀ e tm' N' M' a' w', K e tm' N' M' → FSt w0 S φ0 ι0 N' M' tm' a' w' → Q e.to a' w') → c.wp P Q a w
/-- A truth value decides. -/
structure CondF (b : Bool) (X Y : List Val → Nat → (Nat → Blk) → KontF → Prop) (tm : List Val) (N : Nat) (M : Nat → Blk) (K : KontF) : Prop where
  yes : b = true → X tm N M K
  no : b = false → Y tm N M K
/-- What may be done with what is said of a loop's states. -/
structure InvF (I : List Val → Nat → (Nat → Blk) → Prop) : Prop where
  weak : ∀ {tm N M tm' N' M'}, Weak tm N M tm' N' M' → I tm' N' M' → I tm N M
  know : ∀ {tm N M}, ((∀ b, N ≤ b → M b = .gone) → I tm N M) → I tm N M
def thenF (f : List Val → Nat → (Nat → Blk) → KontF → Prop) (K : KontF) : KontF := fun e tm N M => match e with
  | .normal => f tm N M K
  | e => K e tm N M
def blockF (id : Nat) (K : KontF) : KontF := fun e tm N M => K (match e with
  | .exit i => match i == id with
    | true => .normal
    | false => .exit i
  | e => e) tm N M
def loopF (I : List Val → Nat → (Nat → Blk) → Prop) (K : KontF) : KontF := fun e tm N M => match e with
  | .normal => I tm N M
  | e => K e tm N M
def goF (P : Program) (T : TypeId → TD) (ops : List Oper) (d : Bool) (tm : List Val) (N : Nat) (M : Nat → Blk) (K : KontF) : Prop :=
  match d with
  | false => regF P T ops ops tm N M (K .normal)
  | true => drawF P T ops ops tm N M [] (drawnF ops (K .normal))
/-- What code does. -/
def wpF (P : Program) (T : TypeId → TD) : Code → List Val → Nat → (Nat → Blk) → KontF → Prop
  | .skip, tm, N, M, K => K .normal tm N M
  | .region _ ops d, tm, N, M, K => goF P T ops.toList d tm N M K
  | .seq a b, tm, N, M, K => wpF P T a tm N M (thenF (wpF P T b) K)
  | .cond c x y, tm, N, M, K => evK tm c fun v => match v with
    | .bool b => CondF b (wpF P T x) (wpF P T y) tm N M K
    | _ => False
  | .block id c, tm, N, M, K => wpF P T c tm N M (blockF id K)
  | .loop c, tm, N, M, K => ∀ I : List Val → Nat → (Nat → Blk) → Prop, InvF I → (∀ tm N M, wpF P T c tm N M (loopF I K) → I tm N M) → I tm N M
  | .exit id, tm, N, M, K => K (.exit id) tm N M
  | .ret, tm, N, M, K => K .ret tm N M
  | c, tm, N, M, K => HF P c tm N M K
theorem wpF_sound {P : Program} {T : TypeId → TD} (hT : TOk P T) (hm : P.follows .mixedOrders = true) : ∀ (c : Code) (tm : List Val) (N : Nat) (M : Nat → Blk) (K : KontF), wpF P T c tm N M K → HF P c tm N M K := by
  intro c
  induction c with
  | skip => exact fun tm N M K h => ⟨fun w0 S φ0 ι0 Q a w hs hQ => wp_skip (hQ .normal tm N M a w h hs)⟩
  | region id ops d =>
    intro tm N M K h
    refine ⟨fun w0 S φ0 ι0 Q a w hs hQ => ?_⟩
    cases d with
    | false => exact wp_region_list (by have := regF_sound hT (all := ops.toList) (Q := Q) h hs fun tm N M a w hk hs => hQ .normal tm N M a w hk hs; simpa using this)
    | true => exact drawF_sound hT hm (K := K .normal) h hs fun tm N M a w hk hs => hQ .normal tm N M a w hk hs
  | seq x y ihx ihy =>
    intro tm N M K h
    refine ⟨fun w0 S φ0 ι0 Q a w hs hQ => wp_seq ((ihx tm N M _ h).run w0 S φ0 ι0 _ a w hs fun e tm N M a w hk hs => ?_)⟩
    cases e with
    | normal => exact (ihy tm N M K hk).run w0 S φ0 ι0 Q a w hs hQ
    | exit id => exact hQ (.exit id) tm N M a w hk hs
    | goto l => exact hQ (.goto l) tm N M a w hk hs
    | ret => exact hQ .ret tm N M a w hk hs
  | cond c x y ihx ihy =>
    intro tm N M K h
    unfold wpF at h
    rw [evK_eq] at h
    refine ⟨fun w0 S φ0 ι0 Q a w hs hQ => ?_⟩
    have hs' := hs
    obtain ⟨ι, φ, hI, ht, _⟩ := hs'
    have hv := ht.ev c
    split at h
    · rename_i b e
      rw [e] at hv
      cases b with
      | true => exact wp_cond_true hv.bool_ ((ihx tm N M K (h.yes rfl)).run w0 S φ0 ι0 Q a w hs hQ)
      | false => exact wp_cond_false hv.bool_ ((ihy tm N M K (h.no rfl)).run w0 S φ0 ι0 Q a w hs hQ)
    · exact h.elim
  | block id c ih =>
    intro tm N M K h
    refine ⟨fun w0 S φ0 ι0 Q a w hs hQ => wp_block ((ih tm N M _ h).run w0 S φ0 ι0 _ a w hs fun e tm N M a w hk hs => ?_)⟩
    cases e with
    | normal => exact hQ .normal tm N M a w hk hs
    | exit i =>
      simp only [Ex.to, Exit.inBlock]
      cases hi : i == id with
      | true =>
        simp only [blockF, hi] at hk
        rw [beq_iff_eq] at hi; rw [if_pos hi]; exact hQ .normal tm N M a w hk hs
      | false =>
        simp only [blockF, hi] at hk
        rw [beq_eq_false_iff_ne] at hi; rw [if_neg hi]; exact hQ (.exit i) tm N M a w hk hs
    | goto l => exact hQ (.goto l) tm N M a w hk hs
    | ret => exact hQ .ret tm N M a w hk hs
  | loop c ih =>
    intro tm N M K h
    refine ⟨fun w0 S φ0 ι0 Q a w hs hQ => ?_⟩
    have key := h (fun tm N M => ∀ a w, FSt w0 S φ0 ι0 N M tm a w → ∀ b k cs, ∃ e a' w', Q e a' w' ∧ Arrives P (lone (b.at a (.code c :: .inLoop c :: k)) cs w) b k cs e a' w')
      ⟨by
        intro tm N M tm' N' M' hw h a w hs
        exact h a w (hw w0 S φ0 ι0 a w hs), by
        intro tm N M h a w hs
        have hs' := hs
        obtain ⟨ι, φ, hI, ht, hend, _⟩ := hs'
        exact h (hI.fresh hend) a w hs⟩
      (fun tm N M h a w hs b k cs => by
        obtain ⟨e, a₁, w₁, hq, harr⟩ := (ih tm N M _ h).run w0 S φ0 ι0 (Exit.then (fun a w => ∀ b k cs, ∃ e a' w', Q e a' w' ∧ Arrives P (lone (b.at a (.code c :: .inLoop c :: k)) cs w) b k cs e a' w') Q) a w hs (fun e tm N M a w hk hs => by
          cases e with
          | normal => exact fun b k cs => hk a w hs b k cs
          | exit id => exact hQ (.exit id) tm N M a w hk hs
          | goto l => exact hQ (.goto l) tm N M a w hk hs
          | ret => exact hQ .ret tm N M a w hk hs) b (.inLoop c :: k) cs
        cases e with
        | normal =>
          obtain ⟨e₂, a₂, w₂, hq₂, harr₂⟩ := hq b k cs
          exact ⟨e₂, a₂, w₂, hq₂, .of_steps (Steps.trans harr (.one step_inLoop)) harr₂⟩
        | exit id => exact ⟨_, a₁, w₁, hq, .pass (x := .inLoop c) rfl (fun _ _ => .inl (by simp)) harr⟩
        | goto l => exact ⟨_, a₁, w₁, hq, .pass (x := .inLoop c) rfl (fun _ _ => .inl (by simp)) harr⟩
        | ret => exact ⟨_, a₁, w₁, hq, .pass (x := .inLoop c) rfl (fun _ _ => .inl (by simp)) harr⟩
        | panic ch => exact ⟨_, a₁, w₁, hq, .pass (x := .inLoop c) rfl (fun _ _ => .inl (by simp)) harr⟩
        | outgrown => exact ⟨_, a₁, w₁, hq, .pass (x := .inLoop c) rfl (fun _ _ => .inl (by simp)) harr⟩)
      a w hs
    intro b k cs
    obtain ⟨e, a', w', hq, harr⟩ := key b k cs
    exact ⟨e, a', w', hq, .of_steps (.one step_loop) harr⟩
  | exit id => exact fun tm N M K h => ⟨fun w0 S φ0 ι0 Q a w hs hQ => wp_exit (hQ (.exit id) tm N M a w h hs)⟩
  | ret => exact fun tm N M K h => ⟨fun w0 S φ0 ι0 Q a w hs hQ => wp_ret (hQ .ret tm N M a w h hs)⟩
  | label l' => exact fun tm N M K h => h
  | goto l' => exact fun tm N M K h => h
  | scope c ih => exact fun tm N M K h => h
  | rangeFunc f ps x y _ _ => exact fun tm N M K h => h
  | refuse why => exact fun tm N M K h => h

/-! ### functions -/
def resF (T : TypeId → TD) (tm : List Val) (M : Nat → Blk) : List ResultVar → (List Val → Prop) → Prop
  | [], K => K []
  | .tmp t :: rs, K => getK tm t fun v => resF T tm M rs fun vs => K (v :: vs)
  | .cell t ty :: rs, K => getK tm t fun a => (nb (T ty) fun d => loadP d a).runF M [] none fun v u _ o => needK o <| match u with
    | [] => resF T tm M rs fun vs => K (v :: vs)
    | _ => False
/-- The end: what is known of the heap then, some of it forgotten. -/
inductive EndF (N : Nat) (x : Val) (N' : Nat) (M' : Nat → Blk) (Post : Val → Nat → (Nat → Blk) → Prop) : Prop
  | mk (N1 : Nat) (M1 : Nat → Blk) (hp : Post x N1 M1) (hl : Less M1 M') (h : N ≤ N1) (h' : N' ≤ N1)
def finF (T : TypeId → TD) (rs : List ResultVar) (N : Nat) (Post : Val → Nat → (Nat → Blk) → Prop) : KontF := fun e tm N' M' => match e with
  | .normal | .ret => resF T tm M' rs fun vs => tupK vs fun x => EndF N x N' M' Post
  | _ => False
section
variable {P : Program} {T : TypeId → TD}
theorem resF_ok {w w0 : World} {S : Nat → Prop} {φ0 : Prot} {ι : Map} {φ : Prot} {M : Nat → Blk} {tm : List Val} {a : Act} (hT : TOk P T) (hi : Inv w0 S φ0 ι φ M w) (ht : TmOk ι φ tm a.tmps) : ∀ {rs : List ResultVar} {K : List Val → Prop}, resF T tm M rs K →
    ∃ vs us, K vs ∧ (rs.mapM (resOne a.tmps)).run P w = .ok us w ∧ us.length = vs.length ∧ ∀ i, i < vs.length → Rel ι φ (vs.getD i .und) (us.getD i undef)
  | [], K, h => ⟨[], [], h, by simp, rfl, fun i hi => absurd hi (by simp)⟩
  | .tmp t :: rs, K, h => by
    simp only [resF, getK_eq] at h
    obtain ⟨vs, us, h1, h2, h3, h4⟩ := resF_ok hT hi ht h
    refine ⟨_, a.tmps.getD t undef :: us, h1, ?_, by simp [h3], fun i hi' => ?_⟩
    · rw [List.mapM_cons]; simp only [resOne, Sem.run_bind, Sem.run_pure, Result.andThen_ok, h2]
    · cases i with
      | zero => exact ht.get t
      | succ i => exact h4 i (by simpa using hi')
  | .cell t ty :: rs, K, h => by
    simp only [resF, getK_eq] at h
    obtain ⟨v, u, r, hd, h⟩ := Prog.runF_need (G := fun v u _ => match u with
      | [] => resF T tm M rs fun vs => K (v :: vs)
      | _ => False) h
    obtain ⟨rfl, A, cv, hA, hrun, hv⟩ := load_ok hT hi (ht.get t) hd
    obtain ⟨vs, us, h1, h2, h3, h4⟩ := resF_ok hT hi ht h
    refine ⟨_, cv :: us, h1, ?_, by simp [h3], fun i hi' => ?_⟩
    · rw [List.mapM_cons]
      have : (resOne a.tmps (.cell t ty)).run P w = .ok cv w := by
        simp [resOne, hA, asAddr, hrun]
      simp only [Sem.run_bind, this, Result.andThen_ok, h2, Sem.run_pure]
    · cases i with
      | zero => exact hv
      | succ i => exact h4 i (by simpa using hi')
theorem RetS.of_body {f : FuncId} {fn : Func} {c : Code} {args : List Val} {N : Nat} {M : Nat → Blk} {Post : Val → Nat → (Nat → Blk) → Prop} (hT : TOk P T) (hm : P.follows .mixedOrders = true) (hf : P.funcs[f]? = some fn) (hn : (fn.name == "runtime.NumGoroutine") = false) (hb : fn.body = some c) {k : Nat} {rs : List ResultVar} (hk : fn.ntmps = k) (hr : fn.results.toList = rs)
    (hbody : (∀ b, N ≤ b → M b = .gone) → padK args k fun tm => wpF P T c tm N M (finF T rs N Post)) : RetS P f args N M Post := by
  refine ⟨⟨fn, c, hf, hn, hb⟩, fun w0 S φ0 ι φ w cargs hI ht hend => ?_⟩
  subst hk; subst hr
  have hbody := hbody (hI.fresh hend)
  rw [padK_eq] at hbody
  have htm : TmOk ι φ (args ++ List.replicate (fn.ntmps - args.length) (.tup [])) (cargs ++ Array.replicate (fn.ntmps - cargs.size) undef) := by
    refine ht.app ⟨by simp [ht.len], fun i hi => ?_⟩
    rw [List.length_replicate] at hi
    have e1 : (List.replicate (fn.ntmps - args.length) (Val.tup [])).getD i .und = .tup [] := by simp [List.getD_eq_getElem?_getD, hi]
    have e2 : (Array.replicate (fn.ntmps - cargs.size) undef).getD i undef = undef := by
      rw [Array.getD_eq_getD_getElem?, Array.getElem?_replicate]; split <;> rfl
    rw [e1, e2]; exact rel_undef ι φ
  have hI0 : Inv w (fun g => S g ∨ w0.heap.size ≤ g) φ ι φ M w := ⟨hI.sim, .refl _ _, fun b g c hb e => .inl (hI.own b g c hb e), fun a ha => .inl ha, .refl _⟩
  refine calls_of_wp hf hb ((wpF_sound hT hm c _ N M _ hbody).run w (fun g => S g ∨ w0.heap.size ≤ g) φ ι _ _ w ⟨ι, φ, hI0, htm, hend, .refl _, rfl⟩ fun e tm1 N1 M1 a w' hk hs => ?_)
  obtain ⟨ι1, φ1, hI1, ht1, hend1, hm1, hd1⟩ := hs
  have fin : (resF T tm1 M1 fn.results.toList fun vs => tupK vs fun x => EndF N x N1 M1 Post) → a.defers = [] ∧ ∃ cv, (results fn a.tmps).run P w' = .ok cv w' ∧ ∃ v N' M' cv' ι' φ', Post v N' M' ∧ N ≤ N' ∧ Ending.returned cv = .returned cv' ∧ Rel ι' φ' v cv' ∧ Inv w0 S φ0 ι' φ' M' w' ∧ MapLe ι ι' ∧ ProtLe φ φ' ∧ ∀ b, N' ≤ b → ι' b = none := fun hk => by
    obtain ⟨vs, us, h1, h2, h3, h4⟩ := resF_ok hT hI1 ht1 hk
    have hval : ∃ x cv, EndF N x N1 M1 Post ∧ (results fn a.tmps).run P w' = .ok cv w' ∧ Rel ι1 φ1 x cv := by
      rw [results_list]
      simp only [Sem.run_bind, h2, Result.andThen_ok, Sem.run_pure]
      unfold tupK at h1
      split at h1
      · rename_i x
        refine ⟨x, _, h1, rfl, ?_⟩
        have h3' : us.length = 1 := h3
        have hl : us.toArray.size = 1 := h3'
        rw [dif_pos hl]
        have := h4 0 (by simp)
        rw [List.getD_eq_getElem?_getD, List.getD_eq_getElem?_getD, List.getElem?_eq_getElem (by omega : 0 < us.length)] at this
        exact this
      · rename_i hne
        refine ⟨_, _, h1, rfl, ?_⟩
        have hl : ¬ us.toArray.size = 1 := by
          intro hl
          have : vs.length = 1 := by rw [← h3]; simpa using hl
          obtain ⟨x, rfl⟩ := List.length_eq_one_iff.1 this
          exact hne x rfl
        rw [dif_neg hl]
        exact .tup _ _ (by simpa using h3) fun i hi => by rw [toArr_getD]; exact h4 i hi
    obtain ⟨x, cv, ⟨N2, M2, hp, hl, hN, hN'⟩, hrun, hx⟩ := hval
    exact ⟨hd1, cv, hrun, x, N2, M2, cv, ι1, φ1, hp, hN, rfl, hx, (hI.next hI1 (fun g h => h)).less hl, hm1, hI1.le, fun b hb => hend1 b (by omega)⟩
  cases e with
  | normal => exact fin hk
  | ret => exact fin hk
  | exit id => exact hk.elim
  | goto l => exact hk.elim
theorem RetS.mono {f : FuncId} {az : List Val} {N : Nat} {M : Nat → Blk} {Post Post' : Val → Nat → (Nat → Blk) → Prop} (h : RetS P f az N M Post) (hp : ∀ v N' M', N ≤ N' → Post v N' M' → Post' v N' M') : RetS P f az N M Post' :=
  ⟨h.fn, fun w0 S φ0 ι φ w cargs hI ht hend => (h.run w0 S φ0 ι φ w cargs hI ht hend).mono fun e w' ⟨v, N', M', cv, ι', φ', h1, h2, rest⟩ => ⟨v, N', M', cv, ι', φ', hp v N' M' h2 h1, h2, rest⟩⟩
/-! ### from contracts over lists of blocks -/
/-- A contract that touches no block. -/
theorem CallC.of_ret {f : FuncId} {az : List Val} {v : Val} (N : Nat) (M : Nat → Blk) (hc : closedAs az = true) (h : Ret P f az [] v []) : CallC P f az N M v [] [] N := by
  refine ⟨h.1, Nat.le_refl _, fun w0 S φ0 ι φ w cargs H' hI ht _ _ _ => ?_⟩
  have hsim : Sim (fun _ => none) φ (getH []) w := ⟨fun b => by rw [getH_ge (by simp)]; trivial, fun b b' g c c' _ _ e => (by cases e), hI.sim.prot⟩
  refine (h.2 (fun _ => none) φ w cargs (fun _ _ => rfl) hsim ⟨ht.len, fun i hi => (ht.rel i hi).closedA_ (closedAs_get hc hi)⟩).mono fun e w' ⟨cv, ιc, φ', he, _, hIc, hvc, hend⟩ => ?_
  have hk : Inv w (fun _ => False) φ ιc φ' (getH []) w' := by
    refine ⟨hIc.sim, ⟨hIc.keep.os, hIc.keep.tape, hIc.keep.output, hIc.keep.size, fun g hg _ => hIc.keep.block g hg ?_⟩, fun b g c hb e => absurd (getH_ge (by simp)) hb, fun a ha => ?_, hIc.le⟩
    · rintro ⟨b, c, hb, _⟩; simp at hb
    · rcases hIc.new a ha with h | ⟨b', c', hb', _⟩ | h
      · exact .inl h
      · simp at hb'
      · exact .inr (.inr h)
  have hJ := hI.call (n := N) hk (fun b h1 h2 => by simp at h2; omega) hend
  have e0 : joinM ι N ([] : List Blk).length ιc = ι := by
    funext b; unfold joinM; rw [if_neg (by simp)]
  rw [e0] at hJ
  exact ⟨cv, ι, φ', he, hvc.mono (fun b p e => by rw [hend b (by simp)] at e; cases e) (.refl _), hJ, .refl _, hIc.le, fun _ _ => rfl⟩
/-- A contract that makes blocks alone. -/
theorem CallC.of_new {f : FuncId} {az : List Val} {v : Val} {h1 : List Blk} (N : Nat) (M : Nat → Blk) (hc : closedAs az = true) (h : Ret P f az [] v h1) : CallC P f az N M (renV (shift N) v) (newUpd (shift N) N h1) [] (N + h1.length) := by
  refine ⟨h.1, by omega, fun w0 S φ0 ι φ w cargs H' hI ht _ hfree _ => ?_⟩
  have hsim : Sim (fun _ => none) φ (getH []) w := ⟨fun b => by rw [getH_ge (by simp)]; trivial, fun b b' g c c' _ _ e => (by cases e), hI.sim.prot⟩
  refine (h.2 (fun _ => none) φ w cargs (fun _ _ => rfl) hsim ⟨ht.len, fun i hi => (ht.rel i hi).closedA_ (closedAs_get hc hi)⟩).mono fun e w' ⟨cv, ιc, φ', he, _, hIc, hvc, hend⟩ => ?_
  have hk : Inv w (fun _ => False) φ ιc φ' (getH h1) w' := by
    refine ⟨hIc.sim, ⟨hIc.keep.os, hIc.keep.tape, hIc.keep.output, hIc.keep.size, fun g hg _ => hIc.keep.block g hg ?_⟩, fun b g c hb e => ?_, fun a ha => ?_, hIc.le⟩
    · rintro ⟨b, c, hb, _⟩; simp at hb
    · rcases hIc.own b g c hb e with ⟨b', c', hb', _⟩ | h
      · simp at hb'
      · exact .inr h
    · rcases hIc.new a ha with h | ⟨b', c', hb', _⟩ | h
      · exact .inl h
      · simp at hb'
      · exact .inr (.inr h)
  have hJ := hI.call (n := N) hk hfree hend
  have hm : MapLe ι (joinM ι N h1.length ιc) := fun b p hb => by
    unfold joinM
    by_cases hr : N ≤ b ∧ b < N + h1.length
    · rw [hfree b hr.1 hr.2] at hb; cases hb
    · rw [if_neg hr]; exact hb
  refine ⟨cv, _, φ', he, hvc.ren fun b i p hb e => ?_, hJ, hm, hIc.le, fun b hb => by unfold joinM; rw [if_neg (by omega)]⟩
  simp only [shift, Option.some.injEq] at hb; subst hb
  have : b < h1.length := by
    rcases Nat.lt_or_ge b h1.length with h | h
    · exact h
    · rw [hend b h] at e; cases e
  unfold joinM
  rw [if_pos ⟨by omega, by omega⟩, Nat.add_sub_cancel_left]; exact e
/-- what is known to stand in some blocks, or among the arguments -/
def standsIn (ks : List Nat) (M : Nat → Blk) (az : List Val) (v : Val) : Prop := (∃ b cs i, b ∈ ks ∧ M b = .cells cs ∧ i < cs.length ∧ cs.getD i .und = v) ∨ ∃ i, i < az.length ∧ az.getD i .und = v
/-- what stands in those blocks, or is an argument -/
def okV (ks : List Nat) (M : Nat → Blk) (az : List Val) (v : Val) : Prop := closed v = true ∨ standsIn ks M az v
def okB (ks : List Nat) (M : Nat → Blk) (az : List Val) : Blk → Prop
  | .cells cs => ∀ i, i < cs.length → okV ks M az (cs.getD i .und)
  | .pmap _ _ es => ∀ p ∈ es, ∀ i, i < p.2.length → okV ks M az (p.2.getD i .und)
  | _ => True
theorem standsIn_out {w0 w : World} {S : Nat → Prop} {φ0 φ : Prot} {ι : Map} {us : Array Value} {M H : Nat → Blk} {ks : List Nat} {az : List Val} (hI : Inv w0 S φ0 ι φ H w) (hag : ∀ b ∈ ks, H b = M b) (ht : TmOk ι φ az us) {v : Val} (h : standsIn ks M az v) : outWin ι φ v := by
  rcases h with ⟨b, cs, i, hk, hb, hi, rfl⟩ | ⟨i, hi, rfl⟩
  · have hB := hI.sim.blk b
    rw [hag b hk, hb] at hB
    obtain ⟨g, c, arr, t, _, _, _, hr, _⟩ := hB
    exact ⟨_, (hr i hi).2⟩
  · exact ⟨_, ht.rel i hi⟩
/-- A value that was named ahead is named as it was. -/
theorem Rel.swap {ι ι' : Map} {φ φ' : Prot} (hm : MapLe ι ι') {v : Val} {u0 : Value} (h : Rel ι φ v u0) : ∀ {u : Value}, Rel ι' φ' v u → Rel ι φ' v u := by
  induction h with
  | c h => exact fun h' => .c (h'.closed_ h.isClosed)
  | ptr b off g c h =>
    intro u h'
    obtain ⟨g', c', e, rfl⟩ := h'.ptr_
    rw [hm _ _ h] at e
    injection e with e; injection e with e1 e2; subst e1; subst e2
    exact .ptr b off g c h
  | ep b sz i j g c h =>
    intro u h'
    obtain ⟨g', c', e, rfl⟩ := h'.ep_
    rw [hm _ _ h] at e
    injection e with e; injection e with e1 e2; subst e1; subst e2
    exact .ep b sz i j g c h
  | row b n g c h hn =>
    intro u h'
    obtain ⟨g', c', e, hn', rfl⟩ := h'.row_
    rw [hm _ _ h] at e
    injection e with e; injection e with e1 e2; subst e1; subst e2
    exact .row b n g c h hn'
  | asl b off n g c cap h hn =>
    intro u h'
    obtain ⟨g', c', cap', e, hn', rfl⟩ := h'.asl_
    rw [hm _ _ h] at e
    injection e with e; injection e with e1 e2; subst e1; subst e2
    exact .asl b off n g c cap' h hn'
  | map b g c h =>
    intro u h'
    cases h' with
    | c h' => cases h'
    | map _ g' c' e =>
      rw [hm _ _ h] at e
      injection e with e; injection e with e1 e2; subst e1; subst e2
      exact .map b g c h
  | fn f fs cs us ws h1 h2 r1 r2 i1 i2 =>
    intro u h'
    obtain ⟨us', ws', rfl, k1, k2, k3, k4⟩ := h'.fn_
    exact .fn f fs cs us' ws' k1 k2 (fun i hi => i1 i hi (k3 i hi)) (fun i hi => i2 i hi (k4 i hi))
  | ifc t v u h ih =>
    intro u' h'
    cases h' with
    | c h' => cases h' with | ifc _ _ u'' h'' => exact .ifc t v u'' (ih (.c h''))
    | ifc _ _ u'' h'' => exact .ifc t v u'' (ih h'')
  | agg cs us h h1 hr ih =>
    intro u' h'
    obtain ⟨us', rfl, k1, k2, k3⟩ := h'.agg_
    exact .agg cs us' k1 k2 fun i hi => ih i hi (k3 i hi)
  | tup cs us h hr ih =>
    intro u' h'
    obtain ⟨us', rfl, k1, k3⟩ := h'.tup_
    exact .tup cs us' k1 fun i hi => ih i hi (k3 i hi)
  | und u => exact fun h' => .und _
  | raw u h =>
    intro u' h'
    cases h' with
    | c h' => cases h'
    | raw _ h1 => exact .raw _ h1
theorem EntsG.imp {R R' : Val → Value → Prop} {kag vag : Bool} {ks : List LK} : ∀ {ps : List MEnt} {es : List MapEntry}, (∀ p ∈ ps, ∀ i, i < p.2.length → ∀ u, R (p.2.getD i .und) u → R' (p.2.getD i .und) u) → EntsG R kag vag ks ps es → EntsG R' kag vag ks ps es
  | [], [], _, _ => trivial
  | p :: ps, e :: es, hp, h => ⟨⟨h.1.key, h.1.shape, ⟨h.1.cells.1, fun k hk => ⟨(h.1.cells.2 k hk).1, hp p (List.mem_cons_self ..) k hk _ (h.1.cells.2 k hk).2⟩⟩, h.1.agg, h.1.one⟩, EntsG.imp (fun q hq => hp q (List.mem_cons_of_mem _ hq)) h.2⟩
  | [], _ :: _, _, h => h.elim
  | _ :: _, [], _, h => h.elim
theorem EntsG.some {R : Val → Value → Prop} {kag vag : Bool} {ks : List LK} : ∀ {ps : List MEnt} {es : List MapEntry}, EntsG R kag vag ks ps es → ∀ p ∈ ps, ∀ i, i < p.2.length → ∃ u, R (p.2.getD i .und) u
  | [], [], _, p, hp, _, _ => absurd hp (by simp)
  | p :: ps, e :: es, h, q, hq, i, hi => by
    rcases List.mem_cons.1 hq with rfl | hq
    · exact ⟨_, (h.1.cells.2 i hi).2⟩
    · exact EntsG.some h.2 q hq i hi
  | [], _ :: _, h, _, _, _, _ => h.elim
  | _ :: _, [], h, _, _, _, _ => h.elim
/-- a value whose names were there ahead -/
def Named (ι : Map) (φ : Prot) (v : Val) : Prop := closed v = true ∨ ∃ u, Rel ι φ v u
theorem Named.back {ι ι' : Map} {φ φ' : Prot} {v : Val} (h : Named ι φ v) (hm : MapLe ι ι') {u : Value} (hr : Rel ι' φ' v u) : Rel ι φ' v u := by
  rcases h with h | ⟨u0, h⟩
  · exact .c (hr.closed_ h)
  · exact h.swap hm hr
/-- The names that were there ahead are enough. -/
theorem Inv.back {w0 w w1 : World} {S : Nat → Prop} {φ0 φ φ' : Prot} {ι ι' : Map} {H H' : Nat → Blk} (hI : Inv w0 S φ0 ι φ H w) (hI' : Inv w0 S φ0 ι' φ' H' w1) (hm : MapLe ι ι') (hsame : ∀ b, H' b = .gone ∨ H' b = H b ∨ (H b ≠ .gone ∧ match H' b with
    | .cells cs => ∀ i, i < cs.length → Named ι φ (cs.getD i .und)
    | .pmap _ _ es => ∀ p ∈ es, ∀ i, i < p.2.length → Named ι φ (p.2.getD i .und)
    | _ => True)) : Inv w0 S φ0 ι φ' H' w1 := by
  have live : ∀ b, H' b ≠ .gone → H b ≠ .gone := fun b hb => by
    rcases hsame b with e | e | e
    · exact absurd e hb
    · rw [← e]; exact hb
    · exact e.1
  have place : ∀ b, H' b ≠ .gone → ∃ p, ι b = some p ∧ ι' b = some p := fun b hb => by
    obtain ⟨g, c, e, _⟩ := (hI.sim.blk b).place (live b hb)
    exact ⟨_, e, hm _ _ e⟩
  have cells : ∀ b cs, H' b = .cells cs → ∀ i, i < cs.length → Named ι φ (cs.getD i .und) := fun b cs hb i hi => by
    rcases hsame b with e | e | ⟨_, e⟩
    · rw [hb] at e; cases e
    · have hB := hI.sim.blk b
      rw [← e, hb] at hB
      obtain ⟨g, c, arr, t, _, _, _, hr, _⟩ := hB
      exact .inr ⟨_, (hr i hi).2⟩
    · rw [hb] at e; exact e i hi
  have ents : ∀ b kag ks es, H' b = .pmap kag ks es → ∀ p ∈ es, ∀ i, i < p.2.length → Named ι φ (p.2.getD i .und) := fun b kag ks es hb p hp i hi => by
    rcases hsame b with e | e | ⟨_, e⟩
    · rw [hb] at e; cases e
    · have hB := hI.sim.blk b
      rw [← e, hb] at hB
      obtain ⟨g, c, arr, clock, _, _, hr, _⟩ := hB
      exact .inr (hr.some p hp i hi)
    · rw [hb] at e; exact e p hp i hi
  refine ⟨⟨fun b => ?_, fun b b' g c c' hb hb' e e' => hI'.sim.inj b b' g c c' hb hb' (hm _ _ e) (hm _ _ e'), hI'.sim.prot⟩, hI'.keep, fun b g c hb e => hI'.own b g c hb (hm _ _ e), hI'.new, hI'.le⟩
  have hB := hI'.sim.blk b
  by_cases hb : H' b = .gone
  · rw [hb]; trivial
  obtain ⟨p, e1, e2⟩ := place b hb
  cases hx : H' b with
  | gone => trivial
  | cells cs =>
    rw [hx] at hB
    obtain ⟨g, c, arr, t, e, hh, hs, hr, hf⟩ := hB
    rw [e2] at e; injection e with e; subst e
    exact ⟨g, c, arr, t, e1, hh, hs, fun i hi => ⟨(hr i hi).1, (cells b cs hx i hi).back hm (hr i hi).2⟩, hf⟩
  | row t sz n get pr =>
    rw [hx] at hB
    obtain ⟨g, c, arr, e, rest⟩ := hB
    rw [e2] at e; injection e with e; subst e
    exact ⟨g, c, arr, e1, rest⟩
  | map kag vag ks es =>
    rw [hx] at hB
    obtain ⟨g, c, arr, clock, e, rest⟩ := hB
    rw [e2] at e; injection e with e; subst e
    exact ⟨g, c, arr, clock, e1, rest⟩
  | pmap kag ks es =>
    rw [hx] at hB
    obtain ⟨g, c, arr, clock, e, hh, hr, hst⟩ := hB
    rw [e2] at e; injection e with e; subst e
    exact ⟨g, c, arr, clock, e1, hh, hr.imp fun p hp i hi u hu => (ents b kag ks es hx p hp i hi).back hm hu, hst⟩
/-- A call of which is known what it does wherever the blocks r look so, no block being made: what may be used in any order. -/
theorem CallC.of_retS {f : FuncId} {az : List Val} {v : Val} (N : Nat) {M : Nat → Blk} (u : Upd) (r : List Nat) (hlive : ∀ b x, (b, x) ∈ u → b ∈ r ∧ M b ≠ .gone) (hok : ∀ b ∈ u.map Prod.fst, okB r M az (applyF M u b)) (hv : closedR v = true ∨ okV r M az v)
    (h : ∀ (H' : Nat → Blk) (B : Nat), (∀ b ∈ r, H' b = M b) → RetS P f az B H' fun v' _ M' => v' = v ∧ M' = applyF H' u) : CallC P f az N M v u r N := by
  refine ⟨(h M 0 fun _ _ => rfl).fn, Nat.le_refl _, fun w0 S φ0 ι φ w cargs H' hI ht hag _ ⟨B, hB⟩ => ?_⟩
  refine ((h H' B hag).run w0 S φ0 ι φ w cargs hI ht hB).mono fun e w' ⟨v', N', M', cv, ι', φ', ⟨hv', hM'⟩, _, he, hr, hI', hm, hp, _⟩ => ?_
  subst hv'; subst hM'
  have okR : ∀ {x : Val}, okV r M az x → Named ι φ x := fun {x} hx => hx.imp id (standsIn_out hI hag ht)
  have out : ∀ b ∈ u.map Prod.fst, applyF H' u b = applyF M u b := fun b hb => applyF_on u H' M hb
  refine ⟨cv, ι, φ', he, ?_, hI.back hI' hm fun b => ?_, .refl _, hp, fun _ _ => rfl⟩
  · rcases hv with hv | hv
    · exact hr.closedR_ hv
    · exact (okR hv).back hm hr
  · by_cases hb : b ∈ u.map Prod.fst
    · have hbo := hok b hb
      obtain ⟨⟨b', x⟩, hx, rfl⟩ := List.mem_map.1 hb
      obtain ⟨h1, h2⟩ := hlive b' x hx
      refine .inr (.inr ⟨by rw [hag _ h1]; exact h2, ?_⟩)
      rw [out _ hb]
      cases hc : applyF M u b' with
      | cells cs => rw [hc] at hbo; exact fun i hi => okR (hbo i hi)
      | pmap kag ks es => rw [hc] at hbo; exact fun p hp i hi => okR (hbo p hp i hi)
      | _ => trivial
    · exact .inr (.inl (applyF_off u H' hb))
end
end
end Go.AM

set_option linter.unusedVariables false
set_option linter.unusedSimpArgs false
set_option maxRecDepth 100000
namespace Go.AM
open Go.RowKit
theorem gA {M : Nat → Blk} {b : Nat} {K : Blk → Prop} {x : Blk} (k : K x) (h : M b = x := by first | assumption | exact setH_at _ _ _ | (apply setH_off; (first | assumption | (apply Ne.symm; assumption) | omega); (first | assumption | exact setH_at _ _ _ | (apply setH_off; (first | assumption | (apply Ne.symm; assumption) | omega); (first | assumption | exact setH_at _ _ _ | (apply setH_off; (first | assumption | (apply Ne.symm; assumption) | omega); (first | assumption | exact setH_at _ _ _ | (apply setH_off; (first | assumption | (apply Ne.symm; assumption) | omega); (first | assumption | exact setH_at _ _ _ | (apply setH_off; (first | assumption | (apply Ne.symm; assumption) | omega); (first | assumption | exact setH_at _ _ _ | (apply setH_off; (first | assumption | (apply Ne.symm; assumption) | omega); (first | assumption | exact setH_at _ _ _ | (apply setH_off; (first | assumption | (apply Ne.symm; assumption) | omega); (first | assumption | exact setH_at _ _ _ | (apply setH_off; (first | assumption | (apply Ne.symm; assumption) | omega); (first | assumption | exact setH_at _ _ _ | (apply setH_off; (first | assumption | (apply Ne.symm; assumption) | omega); (first | assumption | exact setH_at _ _ _ | (apply setH_off; (first | assumption | (apply Ne.symm; assumption) | omega); (first | assumption | exact setH_at _ _ _ | (apply setH_off; (first | assumption | (apply Ne.symm; assumption) | omega); (first | assumption | exact setH_at _ _ _ | (apply setH_off; (first | assumption | (apply Ne.symm; assumption) | omega); (first | assumption | exact setH_at _ _ _ | (apply setH_off; (first | assumption | (apply Ne.symm; assumption) | omega); (first | assumption | exact setH_at _ _ _ | (apply setH_off; (first | assumption | (apply Ne.symm; assumption) | omega); (first | assumption | exact setH_at _ _ _))))))))))))))))))))))))))))) : Get M b K := Get.at h k
theorem nA {x y : Nat} {G : Prop} (g : G) (h : x ≠ y := by first | assumption | (apply Ne.symm; assumption) | omega) : Neq x y G := ⟨h, g⟩
section
variable {X Y : List Val → Nat → (Nat → Blk) → KontF → Prop} {tm : List Val} {N : Nat} {M : Nat → Blk} {K : KontF}
theorem CondF.tt {b : Bool} (h : b = true) (k : X tm N M K) : CondF b X Y tm N M K := ⟨fun _ => k, fun e => by (rw [h] at e; cases e)⟩
theorem CondF.ff {b : Bool} (h : b = false) (k : Y tm N M K) : CondF b X Y tm N M K := ⟨fun e => by (rw [h] at e; cases e), fun _ => k⟩
theorem fA {b : Bool} (k : X tm N M K) (h : b = true := by rfl) : CondF b X Y tm N M K := .tt h k
theorem fB {b : Bool} (k : Y tm N M K) (h : b = false := by rfl) : CondF b X Y tm N M K := .ff h k
theorem fdA {b : Bool} (k : X tm N M K) (h : b = true := by first | assumption | exact decT (by first | assumption | omega)) : CondF b X Y tm N M K := .tt h k
theorem fdB {b : Bool} (k : Y tm N M K) (h : b = false := by first | assumption | exact decF (by first | assumption | omega)) : CondF b X Y tm N M K := .ff h k
theorem feA {b : Bool} (k : X tm N M K) (h : b = true := by exact decNT (by first | assumption | omega)) : CondF b X Y tm N M K := .tt h k
theorem feB {b : Bool} (k : Y tm N M K) (h : b = false := by exact decNF (by first | assumption | omega)) : CondF b X Y tm N M K := .ff h k
theorem CondF.dec {p : Prop} [Decidable p] (hy : p → X tm N M K) (hn : ¬ p → Y tm N M K) : CondF (decide p) X Y tm N M K := ⟨fun h => hy (of_decide_eq_true h), fun h => hn (of_decide_eq_false h)⟩
theorem CondF.beq {x y : Int} (hy : x = y → X tm N M K) (hn : x ≠ y → Y tm N M K) : CondF (x == y) X Y tm N M K := ⟨fun h => hy (beq_iff_eq.1 h), fun h => hn (beq_eq_false_iff_ne.1 h)⟩
theorem CondF.nd {p : Prop} [Decidable p] (hy : ¬ p → X tm N M K) (hn : p → Y tm N M K) : CondF (!decide p) X Y tm N M K := ⟨fun h => hy (by simpa using h), fun h => hn (by simpa using h)⟩
theorem CondF.nb {x y : Int} (hy : x ≠ y → X tm N M K) (hn : x = y → Y tm N M K) : CondF (!(x == y)) X Y tm N M K := ⟨fun h => hy (by simpa using h), fun h => hn (by simpa using h)⟩
end
theorem lt_cells {M : Nat → Blk} {N p : Nat} {cs : List Val} (hN : ∀ b, N ≤ b → M b = .gone) (h : M p = .cells cs) : p < N := by
  rcases Nat.lt_or_ge p N with k | k
  · exact k
  · rw [hN p k] at h; cases h
theorem lt_row {M : Nat → Blk} {N p sz n pr : Nat} {e : TypeId} {g : Nat → List Val} (hN : ∀ b, N ≤ b → M b = .gone) (h : M p = .row e sz n g pr) : p < N := by
  rcases Nat.lt_or_ge p N with k | k
  · exact k
  · rw [hN p k] at h; cases h
theorem lt_pmap {M : Nat → Blk} {N p : Nat} {kag : Bool} {ks : List LK} {es : List MEnt} (hN : ∀ b, N ≤ b → M b = .gone) (h : M p = .pmap kag ks es) : p < N := by
  rcases Nat.lt_or_ge p N with k | k
  · exact k
  · rw [hN p k] at h; cases h
theorem ne_cr {M : Nat → Blk} {p b sz n pr : Nat} {e : TypeId} {g : Nat → List Val} {cs : List Val} (h : M p = .cells cs) (k : M b = .row e sz n g pr) : p ≠ b := fun e => by rw [e, k] at h; cases h
theorem ne_cm {M : Nat → Blk} {p b : Nat} {kag : Bool} {ks : List LK} {es : List MEnt} {cs : List Val} (h : M p = .cells cs) (k : M b = .pmap kag ks es) : p ≠ b := fun e => by rw [e, k] at h; cases h
theorem ne_rm {M : Nat → Blk} {p b sz n pr : Nat} {e : TypeId} {g : Nat → List Val} {kag : Bool} {ks : List LK} {es : List MEnt} (h : M p = .row e sz n g pr) (k : M b = .pmap kag ks es) : p ≠ b := fun e => by rw [e, k] at h; cases h
theorem endF {N N' : Nat} {x y : Val} {M' M1 : Nat → Blk} (hv : x = y) (hl : Less M1 M') (h : N ≤ N' := by omega) : EndF N x N' M' (fun v _ M => v = y ∧ M = M1) := .mk N' M1 ⟨hv, rfl⟩ hl h (Nat.le_refl _)
theorem RetS.of_call {P : Program} {f : FuncId} {az : List Val} {N N' : Nat} {M : Nat → Blk} {v : Val} {u : Upd} {r : List Nat} (h : CallC P f az N M v u r N') : RetS P f az N M fun v' _ M' => v' = v ∧ M' = applyF M u :=
  ⟨h.fn, fun w0 S φ0 ι φ w cargs hI ht hend => (h.run w0 S φ0 ι φ w cargs M hI ht (fun _ _ => rfl) (fun b hb _ => hend b hb) ⟨N, hend⟩).mono fun e w' ⟨cv, ι', φ', he, hv, hI', hm, hp, hfr⟩ => ⟨v, N', _, cv, ι', φ', ⟨rfl, rfl⟩, h.le, he, hv, hI', hm, hp, fun b hb => by rw [hfr b (.inr hb)]; exact hend b (by have := h.le; omega)⟩⟩
end Go.AM

set_option linter.unusedVariables false
set_option linter.unusedSimpArgs false
set_option maxRecDepth 100000
namespace Go.AM
theorem Ret.of_retS {P : Program} {f : FuncId} {az : List Val} {v : Val} (hv : closedR v = true) (h : RetS P f az 0 (fun _ => .gone) fun v' _ _ => v' = v) : Ret P f az [] v [] := by
  have e0 : getH ([] : List Blk) = fun _ => .gone := funext fun b => getH_ge (by simp)
  refine ⟨h.fn, fun ι φ w cargs hnone hsim ht => ?_⟩
  rw [e0] at hsim ⊢
  have hI : Inv w (handed ι []) φ ι φ (fun _ => .gone) w := ⟨hsim, .refl _ _, fun b g c hb => absurd rfl hb, fun a ha => .inl ha, .refl _⟩
  refine (h.run w _ φ ι φ w cargs hI ht (fun b _ => hnone b (Nat.zero_le _))).mono fun e w' ⟨v', N', M', cv, ι', φ', hv', _, he, hr, hI', hm, hp, hfr⟩ => ?_
  subst hv'
  refine ⟨cv, fun _ => none, φ', he, fun b x hx => ?_, ⟨⟨fun b => trivial, fun b b' g c c' _ _ e => (by cases e), hI'.sim.prot⟩, hI'.keep, fun b g c hb => absurd rfl hb, hI'.new, hI'.le⟩, hr.closedR_ hv, fun _ _ => rfl⟩
  rw [hnone b (Nat.zero_le _)] at hx; cases hx
end Go.AM

