/- The abstract machine's programs are sound: code, functions. -/
import Derived.Test.YtkglccolonpnlaaAmSound6
set_option linter.unusedVariables false
set_option linter.unusedSimpArgs false
set_option maxRecDepth 100000
namespace Go.AM
noncomputable section
open Go.RowKit

theorem hasL_iff : ∀ (c : Code) (l : Nat), hasL c l = (findLabel c l).isSome
  | .seq a b, l => by
    simp only [hasL, findLabel]
    rw [hasL_iff a l, hasL_iff b l]
    cases findLabel a l <;> simp
  | .label l', l => by simp only [hasL, findLabel]; cases l' == l <;> rfl
  | .skip, _ | .region .., _ | .cond .., _ | .block .., _ | .loop .., _ | .rangeFunc .., _ | .exit .., _ | .scope .., _ | .goto .., _ | .ret, _ | .refuse .., _ => rfl

def Ex.to : Ex → Exit
  | .normal => .normal
  | .exit id => .exit id
  | .goto l => .goto l
  | .ret => .ret

section
variable {w0 : World} {S : Nat → Prop} {φ0 : Prot} {ι0 : Map} {n : Nat} {tm : List Val} {hp : List Blk} {a : Act} {w : World}
theorem St.gc (hs : St w0 S φ0 ι0 n tm hp a w) {ks : List Nat} {m : List Bool} (hk : keepB n ks = true) {I : List Val → List Blk → Prop} (h : gcK ks m tm hp I) : ∃ tm' hp', I tm' hp' ∧ St w0 S φ0 ι0 n tm' hp' a w := by
  unfold gcK at h
  rw [pickK_eq] at h
  obtain ⟨ι, φ, hI, ht, hend, h0, hn, hdf⟩ := hs
  obtain ⟨hnd, hpre⟩ := keepB_ok hk
  obtain ⟨tm', h1, h2, h3⟩ := maskK_ok (ι := ι) (ι' := subM ks ι) (φ := φ) subM_under h
  refine ⟨tm', _, h1, subM ks ι, φ, hI.sub hnd, ⟨by rw [h2, ht.len], fun i hi => h3 (fun i => a.tmps.getD i undef) ht.rel i (by rwa [h2] at hi)⟩, fun b hb => subM_ge (by simpa using hb), fun b hb => ?_, ?_, hdf⟩
  · simp only [subM, hpre b hb]; exact h0 b hb
  · rw [List.length_map]
    rcases Nat.eq_zero_or_pos n with h | h
    · omega
    · have := (List.getElem?_eq_some_iff.1 (hpre (n - 1) (by omega))).1; omega
theorem raiseK_eq {α : Type} : ∀ (l : List Blk) (K : List Blk → α), raiseK l K = K (l.map raiseB)
  | [], _ => rfl
  | x :: l, K => by cases x <;> simp only [raiseK, raiseC, raiseB, raiseK_eq l, List.map_cons]
theorem St.raise (hs : St w0 S φ0 ι0 n tm hp a w) : St w0 S φ0 ι0 n tm (hp.map raiseB) a w := by
  obtain ⟨ι, φ, hI, ht, hend, h0, hn, hdf⟩ := hs
  have hg : ∀ b, getH (hp.map raiseB) b = raiseB (getH hp b) := fun b => by
    simp only [getH, List.getD_eq_getElem?_getD, List.getElem?_map]
    cases hp[b]? <;> rfl
  have hgone : ∀ b, getH (hp.map raiseB) b ≠ .gone → getH hp b ≠ .gone := fun b hb e => by rw [hg, e] at hb; exact hb rfl
  refine ⟨ι, φ, ⟨⟨fun b => ?_, fun b b' g c c' hb hb' e e' => hI.sim.inj b b' g c c' (hgone b hb) (hgone b' hb') e e', hI.sim.prot⟩, hI.keep, fun b g c hb e => hI.own b g c (hgone b hb) e, hI.new, hI.le⟩, ht, fun b hb => hend b (by simpa using hb), h0, by simpa using hn, hdf⟩
  rw [hg]
  have hB := hI.sim.blk b
  cases hx : getH hp b with
  | row e sz m g pr =>
    rw [hx] at hB
    obtain ⟨gg, c, arr, e1, hh, hz, hs, hnc, hc, hpr, hl, hr, h1, hf⟩ := hB
    refine ⟨gg, c, arr, e1, hh, hz, hs, hnc, hc, Nat.le_refl _, hl, hr, h1, fun off sp ho => hf off sp ?_⟩
    have : pr * sz ≤ m * sz := Nat.mul_le_mul_right _ hpr
    omega
  | _ => rw [hx] at hB; exact hB
end

section
variable {P : Program} {T : TypeId → TD} {R : Nat → List Oper → Bool} {w0 : World} {S : Nat → Prop} {φ0 : Prot} {ι0 : Map} {n : Nat}
/-- What the abstract run of code gives for the model's. -/
def Sound (P : Program) (T : TypeId → TD) (R : Nat → List Oper → Bool) (w0 : World) (S : Nat → Prop) (φ0 : Prot) (ι0 : Map) (n : Nat) (c : Code) : Prop :=
  ∀ (m : Option Nat) (tm : List Val) (hp : List Blk) (K : Ex → List Val → List Blk → Prop), wp P T R n c m tm hp K → ∀ (Q : Exit → Act → World → Prop) (a : Act) (w : World), St w0 S φ0 ι0 n tm hp a w →
    (∀ e tm hp a w, K e tm hp → St w0 S φ0 ι0 n tm hp a w → Q e.to a w) →
    match m with
    | none => c.wp P Q a w
    | some l => ∃ rest, findLabel c l = some rest ∧ rest.wp P Q a w

theorem draw_sound (hT : TOk P T) (hm : P.follows .mixedOrders = true) {fl : Bool} {id : Nat} {ops : Array Oper} {tm : List Val} {hp : List Blk} {K : List Val → List Blk → Prop} (h : drawK P T fl ops.toList ops.toList tm hp [] fun tm hp lg => Need (regionB ops.toList lg = true) (K tm hp))
    {Q : Exit → Act → World → Prop} {a : Act} {w : World} (hs : St w0 S φ0 ι0 n tm hp a w) (hQ : ∀ tm hp a w, K tm hp → St w0 S φ0 ι0 n tm hp a w → Q .normal a w) : (Code.region id ops true).wp P Q a w := by
  obtain ⟨es, hes, hc, hp', ⟨hreg, hK⟩, hH, hlen, hle⟩ := drawK_ok hT h
  obtain ⟨hE, hap⟩ := regionB_ok hes hreg
  obtain ⟨ι, φ, hI, ht, hend, h0, hn, hdf⟩ := hs
  refine wp_region_any hm ?_
  have hel : es.length = ops.toList.length := by rw [← hes, List.length_map]
  have hlD : listD (Array.replicate ops.size false) = fun _ => false := by
    funext i; unfold listD; rw [Array.getD_eq_getD_getElem?, Array.getElem?_replicate]; split <;> rfl
  have := draw_any (Q := Q) (w0 := w0) (S := S) (φ0 := φ0) (ι0 := ι0) (n := n) hes hc hn hE hap (fun a w ⟨ι, φ, hI, ht, hfree, h0, hdf⟩ => hQ _ hp' a w hK ⟨ι, φ, ?_, ?_, fun b hb => hfree b (by omega) fun i e he _ ⟨_, h2⟩ => ?_, h0, by omega, hdf⟩)
    ops.size (Array.replicate ops.size false) a { w with drawn := w.drawn + 1 } (by simp) (by simp) (by rw [hlD]; intro j o _ h; cases h) ⟨ι, φ, ?_, ?_, fun b hb _ => hend b hb, h0, hdf⟩
  · simpa using this
  · rw [hH]; rw [dH_all fun i hi => by simp; simpa [hel] using hi] at hI; exact hI
  · rw [dTm_all fun i hi => by simp; simpa [hel] using hi] at ht; exact ht
  · have := (chain_get hc he).2.2.1; omega
  · rw [dH_none fun i => by rw [hlD]]; exact hI.drew _
  · rw [dTm_none fun i => by rw [hlD]]; exact ht

theorem wp_sound (hT : TOk P T) (hm : P.follows .mixedOrders = true) : ∀ c : Code, Sound P T R w0 S φ0 ι0 n c := by
  intro c
  induction c with
  | skip =>
    intro m tm hp K h Q a w hs hQ
    cases m with
    | none => exact wp_skip (hQ .normal tm hp a w h hs)
    | some l => exact h.elim
  | region id ops d =>
    intro m tm hp K h Q a w hs hQ
    cases m with
    | some l => exact h.elim
    | none =>
      have g1 : ∀ fl hp, St w0 S φ0 ι0 n tm hp a w → (regK P T fl ops.toList ops.toList tm hp fun tm hp => K .normal tm hp) → (Code.region id ops false).wp P Q a w := fun fl hp hs h => by
        refine wp_region_list ?_
        have := regK_sound hT (all := ops.toList) (Q := Q) h hs fun tm hp a w hk hs => hQ .normal tm hp a w hk hs
        simpa using this
      have g2 : ∀ fl hp, St w0 S φ0 ι0 n tm hp a w → (drawK P T fl ops.toList ops.toList tm hp [] fun tm hp lg => Need (regionB ops.toList lg = true) (K .normal tm hp)) → (Code.region id ops true).wp P Q a w := fun fl hp hs h =>
        draw_sound hT hm (K := K .normal) h hs fun tm hp a w hk hs => hQ .normal tm hp a w hk hs
      unfold wp at h
      cases hR : R id ops.toList with
      | true =>
        rw [hR] at h
        have h : raiseK hp (goK P T true ops.toList d tm K) := h
        rw [raiseK_eq] at h
        cases d with
        | false => exact g1 true _ hs.raise h
        | true => exact g2 true _ hs.raise h
      | false =>
        rw [hR] at h
        have h : goK P T false ops.toList d tm K hp := h
        cases d with
        | false => exact g1 false _ hs h
        | true => exact g2 false _ hs h
  | seq x y ihx ihy =>
    intro m tm hp K h Q a w hs hQ
    have next : ∀ (e : Ex) tm hp a w, thenK (wp P T R n y none) K e tm hp → St w0 S φ0 ι0 n tm hp a w → Exit.then (y.wp P Q) Q e.to a w := fun e tm hp a w h hs => by
      cases e with
      | normal => exact ihy none tm hp K h Q a w hs hQ
      | exit id => exact hQ (.exit id) tm hp a w h hs
      | goto l => exact hQ (.goto l) tm hp a w h hs
      | ret => exact hQ .ret tm hp a w h hs
    cases m with
    | none => exact wp_seq (ihx none tm hp _ h _ a w hs next)
    | some l =>
      unfold wp at h
      split at h
      · obtain ⟨rest, h1, h2⟩ := ihx (some l) tm hp _ h _ a w hs next
        exact ⟨.seq rest y, by simp [findLabel, h1], wp_seq h2⟩
      · rename_i hl
        obtain ⟨rest, h1, h2⟩ := ihy (some l) tm hp _ h _ a w hs hQ
        have : findLabel x l = none := by
          rw [hasL_iff] at hl
          cases hx : findLabel x l with
          | none => rfl
          | some _ => rw [hx] at hl; cases hl
        exact ⟨rest, by simp [findLabel, this, h1], h2⟩
  | cond c x y ihx ihy =>
    intro m tm hp K h Q a w hs hQ
    cases m with
    | some l => exact h.elim
    | none =>
      unfold wp at h
      simp only [evK_eq] at h
      have hs' := hs
      obtain ⟨ι, φ, hI, ht, _⟩ := hs'
      have hv := ht.ev c
      split at h
      · rename_i b e
        rw [e] at hv
        cases b with
        | true => exact wp_cond_true hv.bool_ (ihx none tm hp K (h.yes rfl) Q a w hs hQ)
        | false => exact wp_cond_false hv.bool_ (ihy none tm hp K (h.no rfl) Q a w hs hQ)
      · exact h.elim
  | block id c ih =>
    intro m tm hp K h Q a w hs hQ
    cases m with
    | some l => exact h.elim
    | none =>
      refine wp_block (ih none tm hp _ h _ a w hs fun e tm hp a w hk hs => ?_)
      cases e with
      | normal => exact hQ .normal tm hp a w hk hs
      | exit i =>
        simp only [Ex.to, Exit.inBlock]
        cases hi : i == id with
        | true =>
          simp only [blockK, hi] at hk
          rw [beq_iff_eq] at hi; rw [if_pos hi]; exact hQ .normal tm hp a w hk hs
        | false =>
          simp only [blockK, hi] at hk
          rw [beq_eq_false_iff_ne] at hi; rw [if_neg hi]; exact hQ (.exit i) tm hp a w hk hs
      | goto l => exact hQ (.goto l) tm hp a w hk hs
      | ret => exact hQ .ret tm hp a w hk hs
  | loop c ih =>
    intro m tm hp K h Q a w hs hQ
    cases m with
    | some l => exact h.elim
    | none =>
      have key := h (fun tm hp => ∀ a w, St w0 S φ0 ι0 n tm hp a w → ∀ b k cs, ∃ e a' w', Q e a' w' ∧ Arrives P (lone (b.at a (.code c :: .inLoop c :: k)) cs w) b k cs e a' w')
        (fun ks m tm hp hk hg a w hs => by
          obtain ⟨tm', hp', h1, h2⟩ := hs.gc hk hg
          exact h1 a w h2)
        (fun tm hp h a w hs b k cs => by
          obtain ⟨e, a₁, w₁, hq, harr⟩ := ih none tm hp _ h (Exit.then (fun a w => ∀ b k cs, ∃ e a' w', Q e a' w' ∧ Arrives P (lone (b.at a (.code c :: .inLoop c :: k)) cs w) b k cs e a' w') Q) a w hs (fun e tm hp a w hk hs => by
            cases e with
            | normal => exact fun b k cs => hk a w hs b k cs
            | exit id => exact hQ (.exit id) tm hp a w hk hs
            | goto l => exact hQ (.goto l) tm hp a w hk hs
            | ret => exact hQ .ret tm hp a w hk hs) b (.inLoop c :: k) cs
          cases e with
          | normal =>
            obtain ⟨e₂, a₂, w₂, hq₂, harr₂⟩ := hq b k cs
            exact ⟨e₂, a₂, w₂, hq₂, .of_steps (Steps.trans harr (.one step_inLoop)) harr₂⟩
          | exit id => exact ⟨_, a₁, w₁, hq, .pass (x := .inLoop c) rfl (fun _ _ => .inl (by simp)) harr⟩
          | goto l => exact ⟨_, a₁, w₁, hq, .pass (x := .inLoop c) rfl (fun _ _ => .inl (by simp)) harr⟩
          | ret => exact ⟨_, a₁, w₁, hq, .pass (x := .inLoop c) rfl (fun _ _ => .inl (by simp)) harr⟩
          | panic ch => exact ⟨_, a₁, w₁, hq, .pass (x := .inLoop c) rfl (fun _ _ => .inl (by simp)) harr⟩
          | outgrown => exact ⟨_, a₁, w₁, hq, .pass (x := .inLoop c) rfl (fun _ _ => .inl (by simp)) harr⟩)
        a w hs
      intro b k cs
      obtain ⟨e, a', w', hq, harr⟩ := key b k cs
      exact ⟨e, a', w', hq, .of_steps (.one step_loop) harr⟩
  | scope c ih =>
    intro m tm hp K h Q a w hs hQ
    cases m with
    | some l => exact h.elim
    | none =>
      let Jmp : Nat → Act → World → Prop := fun l a w => ∃ rest, findLabel c l = some rest ∧ ∀ b k cs, ∃ e a' w', Q e a' w' ∧ Arrives P (lone (b.at a (.code rest :: .inScope c :: k)) cs w) b k cs e a' w'
      let Q2 : Exit → Act → World → Prop := fun e a w => match e with
        | .goto l' => Jmp l' a w
        | e => Q e a w
      have post : ∀ (e : Ex) tm hp a w, jumpK (fun l tm hp => ∀ a w, St w0 S φ0 ι0 n tm hp a w → Jmp l a w) K e tm hp → St w0 S φ0 ι0 n tm hp a w → Q2 e.to a w := fun e tm hp a w hk hs => by
        cases e with
        | normal => exact hQ .normal tm hp a w hk hs
        | exit id => exact hQ (.exit id) tm hp a w hk hs
        | goto l => exact hk a w hs
        | ret => exact hQ .ret tm hp a w hk hs
      -- a walk inside the scope, seen from outside
      have out : ∀ (x : Code) (a : Act) (w : World), x.wp P Q2 a w → ∀ b k cs, ∃ e a' w', Q e a' w' ∧ Arrives P (lone (b.at a (.code x :: .inScope c :: k)) cs w) b k cs e a' w' := fun x a w hx b k cs => by
        obtain ⟨e, a₁, w₁, hq, harr⟩ := hx b (.inScope c :: k) cs
        cases e with
        | normal => exact ⟨.normal, a₁, w₁, hq, Steps.trans harr (.one step_inScope)⟩
        | exit id => exact ⟨.exit id, a₁, w₁, hq, fun k' hk => harr k' (by simp [exitTo, hk])⟩
        | goto l' =>
          obtain ⟨rest, hf, hj⟩ := hq
          obtain ⟨e₂, a₂, w₂, hq₂, harr₂⟩ := hj b k cs
          exact ⟨e₂, a₂, w₂, hq₂, .of_steps (harr _ (by simp [gotoIn, hf])) harr₂⟩
        | ret => exact ⟨_, a₁, w₁, hq, harr⟩
        | panic ch => exact ⟨_, a₁, w₁, hq, harr⟩
        | outgrown => exact ⟨_, a₁, w₁, hq, harr⟩
      have key := h (fun l tm hp => ∀ a w, St w0 S φ0 ι0 n tm hp a w → Jmp l a w)
        (fun l ks m tm hp hk hg a w hs => by
          obtain ⟨tm', hp', h1, h2⟩ := hs.gc hk hg
          exact h1 a w h2)
        (fun l tm hp h a w hs => by
          obtain ⟨rest, h1, h2⟩ := ih (some l) tm hp _ h Q2 a w hs post
          exact ⟨rest, h1, out rest a w h2⟩)
      have := ih none tm hp _ key Q2 a w hs post
      intro b k cs
      obtain ⟨e, a', w', hq, harr⟩ := out c a w this b k cs
      exact ⟨e, a', w', hq, .of_steps (.one step_scope) harr⟩
  | exit id =>
    intro m tm hp K h Q a w hs hQ
    cases m with
    | none => exact wp_exit (hQ (.exit id) tm hp a w h hs)
    | some l => exact h.elim
  | label l' =>
    intro m tm hp K h Q a w hs hQ
    cases m with
    | none => exact wp_label (hQ .normal tm hp a w h hs)
    | some l =>
      unfold wp at h
      split at h
      · rename_i hl
        exact ⟨.skip, by simp [findLabel, hl], wp_skip (hQ .normal tm hp a w h hs)⟩
      · exact h.elim
  | goto l' =>
    intro m tm hp K h Q a w hs hQ
    cases m with
    | none => exact wp_goto (hQ (.goto l') tm hp a w h hs)
    | some l => exact h.elim
  | ret =>
    intro m tm hp K h Q a w hs hQ
    cases m with
    | none => exact wp_ret (hQ .ret tm hp a w h hs)
    | some l => exact h.elim
  | rangeFunc f ps x y _ _ => intro m tm hp K h; cases m <;> exact h.elim
  | refuse why => intro m tm hp K h; cases m <;> exact h.elim
end
end
end Go.AM
