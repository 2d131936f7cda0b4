/- The operations one by one: slices cut, array pointers, lengths. -/
import Derived.Test.YtkglccolonpnlaaAmOps6
set_option linter.unusedVariables false
set_option linter.unusedSimpArgs false
set_option maxRecDepth 100000
namespace Go.AM
noncomputable section
open Go.RowKit

section
variable {P : Program} {T : TypeId → TD} {a : Act} {w w0 : World} {S : Nat → Prop} {φ0 : Prot} {ι : Map} {φ : Prot} {H : Nat → Blk} {nid : Nat} {v : Val} {u : Upd} {r r' : List Nat} {tm : List Val}
variable {dst : Option Tmp} {ty : TypeId} {pos : String} {after : Array Edge} {guard : Option (Nat × Bool)}

def OptRel (ι : Map) (φ : Prot) : Option Val → Option Value → Prop
  | none, none => True
  | some v, some u => Rel ι φ v u
  | _, _ => False
theorem TmOk.opt (ht : TmOk ι φ tm a.tmps) (x : Option Operand) : OptRel ι φ (x.map (evV tm)) (x.map a.eval) := by
  cases x with
  | none => trivial
  | some x => exact ht.ev x
theorem bound_run {k : IntKind} {i : Int} {y : Nat} {code : BoundsCode} (h0 : 0 ≤ i) (h1 : i ≤ y) : (Instr.sliceBound (.int k i) y code).run P w = .ok i.toNat w := by
  simp [Instr.sliceBound, asIntOf, h0, h1]
theorem boundK_sound {o : Option Val} {o' : Option Value} (ho : OptRel ι φ o o') {d : Int} {K : Int → Prog} (h : Does (boundK o d K) H r v u r') :
    ∃ i, Does (K i) H r v u r' ∧ ((o' = none ∧ i = d) ∨ ∃ k, o' = some (.int k i)) := by
  unfold Does boundK at h
  split at h
  · cases o' with
    | none => exact ⟨d, h, .inl ⟨rfl, rfl⟩⟩
    | some _ => exact ho.elim
  · cases o' with
    | none => exact ho.elim
    | some u' => exact ⟨_, h, .inr ⟨_, by rw [Rel.int_ ho]⟩⟩
  · exact h.elim
theorem bounds_run {lo hi : Option Value} {l h : Int} {n cap : Nat} (hl : (lo = none ∧ l = 0) ∨ ∃ k, lo = some (.int k l)) (hh : (hi = none ∧ h = n) ∨ ∃ k, hi = some (.int k h)) (h0 : 0 ≤ l) (h1 : l ≤ h) (h2 : h ≤ n) (h3 : n ≤ cap) (isS : Bool) :
    (Instr.sliceBounds isS n cap lo hi none).run P w = .ok (l.toNat, h.toNat, cap) w := by
  have b1 : ∀ k c, (Instr.sliceBound (.int k h) cap c).run P w = .ok h.toNat w := fun k c => bound_run (by omega) (by omega)
  have b2 : ∀ k c, (Instr.sliceBound (.int k l) h.toNat c).run P w = .ok l.toNat w := fun k c => bound_run (by omega) (by omega)
  have b3 : ∀ k c, h = n → (Instr.sliceBound (.int k l) n c).run P w = .ok l.toNat w := fun k c e => bound_run (by omega) (by omega)
  rcases hl with ⟨rfl, rfl⟩ | ⟨k, rfl⟩ <;> rcases hh with ⟨rfl, rfl⟩ | ⟨k', rfl⟩
  · simp [Instr.sliceBounds]
  · simp [Instr.sliceBounds, b1]
  · simp [Instr.sliceBounds, b3]
  · simp [Instr.sliceBounds, b1, b2]

theorem ext_sub {sz n c : Nat} {get : Nat → List Val} {A : Addr} {vals : Nat → Nat → Value} (hc : n ≤ c) (hl : ∀ i, i < n → (get i).length = sz) (hφ : ∀ i j, i < n → j < sz → φ (A.add (i * sz + j)) = some (vals i j))
    (h1 : ∀ i j, i < n → j < sz → (vals i j).oneCell' = true) (hr : ∀ i j, i < n → j < sz → RelC φ ((get i).getD j .und) (vals i j)) {l h : Nat} (hlh : l ≤ h) (hhn : h ≤ n) :
    Rel ι φ (.ext sz (h - l) fun i => get (i + l)) (.slice (some (if c = l then A else A.add (l * sz))) (h - l) (c - l)) := by
  by_cases hcl : c = l
  · rw [if_pos hcl]
    have : h - l = 0 := by omega
    rw [this]
    exact .c (.ext _ _ _ _ _ (fun _ _ => undef) (Nat.zero_le _) (fun i hi => absurd hi (by omega)) (fun i j hi => absurd hi (by omega)) (fun i j hi => absurd hi (by omega)) (fun i j hi => absurd hi (by omega)))
  · rw [if_neg hcl]
    refine .c (.ext _ _ _ _ _ (fun i j => vals (i + l) j) (by omega) (fun i hi => hl _ (by omega)) (fun i j hi hj => ?_) (fun i j hi hj => h1 _ _ (by omega) hj) (fun i j hi hj => hr _ _ (by omega) hj))
    rw [add_add, show l * sz + (i * sz + j) = (i + l) * sz + j by rw [Nat.add_mul]; omega]
    exact hφ _ _ (by omega) hj

theorem sound_slice {t : TypeId} {x : Operand} {lo hi mx : Option Operand} (hT : TOk P T) (hI : Inv w0 S φ0 ι φ H w) (ht : TmOk ι φ tm a.tmps)
    (h : Does (evK tm x fun x => optK tm lo fun lo => optK tm hi fun hi => optK tm mx fun mx => sliceP (T t) x lo hi mx) H [] v u r') :
    Step P ⟨dst, .slice t x lo hi mx, ty, pos, after, guard⟩ a w w0 S φ0 ι φ H nid v u := by
  rw [evK_eq, optK_eq, optK_eq, optK_eq] at h
  have hx := ht.ev x
  have hlo := ht.opt lo
  have hhi := ht.opt hi
  have hmx := ht.opt mx
  have hex : (execOp a.eval ⟨dst, .slice t x lo hi mx, ty, pos, after, guard⟩).run P w = (do pure (Next.value (← Instr.sliceAt t (a.eval x) (lo.map a.eval) (hi.map a.eval) (mx.map a.eval)))).run P w := rfl
  have sliceT : ∀ {e sz by_}, T t = .slice e sz by_ → P.underlying t = some (.slice e) ∧ ∀ W : World, (sizeOf e).run P W = .ok sz W := fun {e sz by_} he => by
    obtain ⟨hu, i, hi, hs, _⟩ := Good.slice_ hT he
    exact ⟨hu, fun W => by simp [sizeOf, run_info hi, hs]⟩
  generalize evV tm x = vx at h hx
  generalize lo.map (evV tm) = vlo at h hlo
  generalize hi.map (evV tm) = vhi at h hhi
  generalize mx.map (evV tm) = vmx at h hmx
  generalize a.eval x = cx at hx hex
  generalize lo.map a.eval = clo at hlo hex
  generalize hi.map a.eval = chi at hhi hex
  generalize mx.map a.eval = cmx at hmx hex
  unfold Does sliceP at h
  split at h
  · cases cmx with
    | some _ => exact hmx.elim
    | none =>
    clear hmx
    split at h
    · -- a string
      rename_i s
      split at h
      case h_2 => exact h.elim
      rename_i hTt
      obtain ⟨l, h, hl⟩ := boundK_sound hlo h
      obtain ⟨h', h, hh⟩ := boundK_sound hhi h
      obtain ⟨⟨h0, h1, h2⟩, h⟩ := h
      obtain ⟨rfl, rfl⟩ := does_valK h
      have hg : Good P .str t := hTt ▸ hT.good (by rw [hTt]; simp)
      simp only [Good] at hg
      refine Step.pure_ hI (cv := .string (s.extract l.toNat h'.toNat)) ?_ (.c (.str _))
      rw [hex, hx.str_]
      simp [Instr.sliceAt, run_underlying hg.1, Instr.slice, bounds_run hl hh h0 h1 h2 (Nat.le_refl _)]
    · -- outer memory
      rename_i sz n g
      split at h
      case h_2 => exact h.elim
      rename_i e sz' by_ hTt
      obtain ⟨hu, hsz⟩ := sliceT hTt
      split at h
      case h_2 => exact h.elim
      rename_i hs
      rw [beq_iff_eq] at hs; subst hs
      obtain ⟨l, h, hl⟩ := boundK_sound hlo h
      obtain ⟨h', h, hh⟩ := boundK_sound hhi h
      obtain ⟨⟨h0, h1, h2⟩, h⟩ := h
      obtain ⟨rfl, rfl⟩ := does_valK h
      rcases hx.ext_ with ⟨rfl, rfl⟩ | ⟨A, c, vals, rfl, hc, hlen, hφ, hone, hr⟩
      · have e1 : h'.toNat - l.toNat = 0 := by omega
        refine Step.pure_ hI (cv := .slice none 0 0) ?_ (by rw [e1]; exact .c (.extNil _ _))
        rw [hex]
        have e2 : l = 0 := by omega
        have e3 : h' = 0 := by omega
        subst e2; subst e3
        have := bounds_run (P := P) (w := w) (n := 0) (cap := 0) hl hh h0 h1 h2 (Nat.le_refl _) true
        simp [Instr.sliceAt, run_underlying hu, Instr.slice, hsz, this]
      · refine Step.pure_ hI (cv := .slice (some (if c = l.toNat then A else A.add (l.toNat * sz))) (h'.toNat - l.toNat) (c - l.toNat)) ?_ (ext_sub hc hlen hφ hone hr (by omega) (by omega))
        rw [hex]
        have := bounds_run (P := P) (w := w) (n := n) (cap := c) hl hh h0 h1 h2 hc true
        simp only [Instr.sliceAt, Sem.run_bind, run_underlying hu, Instr.slice, Result.andThen_ok, hsz, this, Sem.run_pure, Option.map_some]
        split <;> rfl
    · -- nil
      split at h
      case h_2 => exact h.elim
      rename_i e sz' by_ hTt
      obtain ⟨hu, hsz⟩ := sliceT hTt
      obtain ⟨l, h, hl⟩ := boundK_sound hlo h
      obtain ⟨h', h, hh⟩ := boundK_sound hhi h
      obtain ⟨⟨e1, e2⟩, h5⟩ := h
      obtain ⟨rfl, rfl⟩ := does_valK h5
      subst e1; subst e2
      refine Step.pure_ hI (cv := .slice none 0 0) ?_ (.c .nils)
      rw [hex, hx.nils_]
      have := bounds_run (P := P) (w := w) (n := 0) (cap := 0) hl hh (Int.le_refl _) (Int.le_refl _) (Int.le_refl _) (Nat.le_refl _) true
      simp [Instr.sliceAt, run_underlying hu, Instr.slice, hsz, this]
    · -- a row of the call's own, lent
      rename_i b n
      split at h
      case h_2 => exact h.elim
      rename_i e sz' by_ hTt
      obtain ⟨hu, hsz⟩ := sliceT hTt
      obtain ⟨g, c, hm, hnc, rfl⟩ := hx.row_
      simp only [Prog.run] at h
      split at h
      case h_2 => exact h.elim
      rename_i te sz m get pr hbk
      split at h
      case h_2 => exact h.elim
      rename_i hs
      rw [beq_iff_eq] at hs; subst hs
      obtain ⟨l, h, hl⟩ := boundK_sound hlo h
      obtain ⟨h', h, hh⟩ := boundK_sound hhi h
      obtain ⟨⟨h0, h1, h2, h3⟩, rfl, rfl, _⟩ := h
      have hB := hI.sim.blk b
      rw [hbk] at hB
      obtain ⟨arr, hheap, hz0, hs, hmc, hcm, hpr, hlen, hcell, hone, hf⟩ := blk_row hB hm
      let φ' : Prot := fun q => if q.block = g ∧ q.spot = none ∧ q.off < max pr h'.toNat * sz then some (arr.getD q.off undef) else φ q
      have hmax : max pr h'.toNat ≤ m := by omega
      have hmsz : max pr h'.toNat * sz ≤ c * sz := Nat.mul_le_mul_right _ (by omega)
      have hold : ∀ q z, φ q = some z → q.block = g → q.spot = none ∧ q.off < pr * sz ∧ arr.getD q.off undef = z := fun q z hq hqb => by
        have h4 := hI.sim.prot q z hq
        obtain ⟨qb, qo, qs⟩ := q
        simp only at hqb; subst hqb
        have h5 : qo < pr * sz := by
          rcases Nat.lt_or_ge qo (pr * sz) with h | h
          · exact h
          · rw [hf qo qs h] at hq; cases hq
        simp only [World.cell?, hheap] at h4
        split at h4
        · cases h4
        · rename_i hsp
          refine ⟨by simpa using hsp, h5, ?_⟩
          rw [Array.getD_eq_getD_getElem?, h4]; rfl
      have hle : ProtLe φ φ' := fun q z hq => by
        simp only [φ']
        by_cases hqb : q.block = g
        · obtain ⟨h4, h5, h6⟩ := hold q z hq hqb
          have : pr * sz ≤ max pr h'.toNat * sz := Nat.mul_le_mul_right _ (by omega)
          rw [if_pos ⟨hqb, h4, by omega⟩, h6]
        · rw [if_neg (fun hh => hqb hh.1)]; exact hq
      have hin : ∀ i j, i < h'.toNat → j < sz → φ' ((⟨g, 0, none⟩ : Addr).add (i * sz + j)) = some (arr.getD (i * sz + j) undef) := fun i j hi hj => by
        have : i * sz + j < max pr h'.toNat * sz := by
          calc i * sz + j < i * sz + sz := by omega
            _ = (i + 1) * sz := by rw [Nat.add_mul, Nat.one_mul]
            _ ≤ max pr h'.toNat * sz := Nat.mul_le_mul_right _ (by omega)
        simp only [φ', add_eq, Nat.zero_add]
        rw [if_pos ⟨trivial, trivial, this⟩]
      have hcellφ : ∀ i j, i < h'.toNat → j < sz → RelC φ' ((get i).getD j .und) (arr.getD (i * sz + j) undef) := fun i j hi hj => (hcell i j (by omega) hj).2.2.mono hle
      refine ⟨.value (.slice (some (if c = l.toNat then ⟨g, 0, none⟩ else (⟨g, 0, none⟩ : Addr).add (l.toNat * sz))) (h'.toNat - l.toNat) (c - l.toNat)), _, w, ι, φ', ?_, .inl rfl,
        ext_sub (n := h'.toNat) (by omega) (fun i hi => hlen i (by omega)) hin (fun i j hi hj => (hcell i j (by omega) hj).2.1) hcellφ (by omega) (Nat.le_refl _),
        hI.lend hm (by rw [hbk]; simp) hle (fun q hq => by simp only [φ']; rw [if_neg (fun hh => hq hh.1)]) (fun q z hq hqb => ?_) ?_, .refl _, hle, fun _ _ => rfl⟩
      · rw [hex]
        have := bounds_run (P := P) (w := w) (n := n) (cap := c) hl hh h0 h1 h2 hnc true
        simp only [Instr.sliceAt, Sem.run_bind, run_underlying hu, Instr.slice, Result.andThen_ok, hsz, this, Sem.run_pure, Option.map_some]
        split <;> rfl
      · simp only [φ'] at hq
        split at hq
        · rename_i hh
          obtain ⟨qb, qo, qs⟩ := q
          simp only at hh hqb; obtain ⟨rfl, rfl, hlt⟩ := hh
          injection hq with hq; subst hq
          simp only [World.cell?, hheap]
          rw [Array.getD_eq_getD_getElem?, Array.getElem?_eq_getElem (by omega)]
          simp
        · exact hI.sim.prot q z hq
      · refine ⟨g, c, arr, hm, hheap, hz0, hs, hmc, hcm, hmax, hlen, fun i j hi hj => (hcell i j hi hj).2.2.mono hle, hone, fun off sp ho => ?_⟩
        simp only [φ']
        rw [if_neg (by simp; omega)]
        have : pr * sz ≤ max pr h'.toNat * sz := Nat.mul_le_mul_right _ (by omega)
        exact hf off sp (by omega)
    · -- an array of the call's own
      rename_i b off
      obtain ⟨g, c, hm, rfl⟩ := hx.ptr_
      split at h
      case h_2 => exact h.elim
      rename_i n e hTt
      have hg : Good P (.arr n e) t := hTt ▸ hT.good (by rw [hTt]; simp)
      simp only [Good] at hg
      obtain ⟨⟨el, hu, hge⟩, _⟩ := hg
      split at h
      case h_2 => exact h.elim
      rename_i hs
      rw [beq_iff_eq] at hs
      obtain ⟨l, h, hl⟩ := boundK_sound hlo h
      obtain ⟨h', h, hh⟩ := boundK_sound hhi h
      obtain ⟨⟨h0, hln, h1, h2⟩, h⟩ := h
      obtain ⟨rfl, rfl⟩ := does_valK h
      refine Step.pure_ hI (cv := .slice (some ⟨g, off + l.toNat, none⟩) (h'.toNat - l.toNat) (n - l.toNat)) ?_ (.asl _ _ _ g c _ hm (by omega))
      rw [hex]
      have := bounds_run (P := P) (w := w) (n := n) (cap := n) hl hh h0 h1 h2 (Nat.le_refl _) false
      have hne : ¬ n = l.toNat := by omega
      simp [Instr.sliceAt, run_underlying hu, Instr.sureAddr, this, hge.size_run, hs, hne, add_eq]
    · exact h.elim
  · -- s[:0:0]
    rename_i k
    cases cmx with
    | none => exact hmx.elim
    | some cm =>
    have hmx : Rel ι φ (.int k 0) cm := hmx
    rw [hmx.int_] at hex
    split at h
    case h_2 => exact h.elim
    rename_i k' e sz by_ hTt
    obtain ⟨hu, hsz⟩ := sliceT hTt
    cases clo with
    | some _ => exact hlo.elim
    | none =>
    cases chi with
    | none => exact hhi.elim
    | some ch =>
    have hhi : Rel ι φ (.int k' 0) ch := hhi
    rw [hhi.int_] at hex
    have b1 : ∀ y c, (Instr.sliceBound (.int k 0) y c).run P w = .ok 0 w := fun y c => by rw [bound_run (Int.le_refl _) (by omega)]; rfl
    have b2 : ∀ y c, (Instr.sliceBound (.int k' 0) y c).run P w = .ok 0 w := fun y c => by rw [bound_run (Int.le_refl _) (by omega)]; rfl
    have fin : ∀ {A : Option Addr} {n c : Nat}, cx = .slice A n c → Rel ι φ v (.slice A 0 0) → u = [] → Step P ⟨dst, .slice t x lo hi mx, ty, pos, after, guard⟩ a w w0 S φ0 ι φ H nid v u := by
      intro A n c he hv hu'
      subst hu'
      refine Step.pure_ hI (cv := .slice A 0 0) ?_ hv
      rw [hex, he]
      simp [Instr.sliceAt, run_underlying hu, Instr.slice, Instr.sliceBounds, hsz, b1, b2]
    split at h
    · obtain ⟨rfl, rfl⟩ := does_valK h
      exact fin hx.nils_ (.c .nils) rfl
    · obtain ⟨rfl, rfl⟩ := does_valK h
      obtain ⟨A, e⟩ := hx.emp_
      exact fin e (.c (.emp A)) rfl
    · obtain ⟨rfl, rfl⟩ := does_valK h
      rcases hx.ext_ with ⟨e, _⟩ | ⟨A, c, vals, e, _⟩
      · cases e
      · exact fin e (.c (.emp A)) rfl
    · obtain ⟨rfl, rfl⟩ := does_valK h
      obtain ⟨g, c, hm, hnc, e⟩ := hx.row_
      exact fin e (.c (.emp _)) rfl
    · exact h.elim
  · exact h.elim

theorem sound_arrPtr {t : TypeId} {x : Operand} (hT : TOk P T) (hi : Inv w0 S φ0 ι φ H w) (ht : TmOk ι φ tm a.tmps) (h : Does (evK tm x fun x => arrPtrP (T t) x) H [] v u r') :
    Step P ⟨dst, .sliceToArrayPointer t x, ty, pos, after, guard⟩ a w w0 S φ0 ι φ H nid v u := by
  rw [evK_eq] at h
  have hx := ht.ev x
  generalize evV tm x = vx at h hx
  unfold Does arrPtrP at h
  split at h
  case h_2 => exact h.elim
  rename_i n e b off m hTt
  have hg : Good P (.arr n e) t := hTt ▸ hT.good (by rw [hTt]; simp)
  simp only [Good] at hg
  obtain ⟨⟨el, hu, hge⟩, _⟩ := hg
  split at h
  case h_2 => exact h.elim
  obtain ⟨hnm, h⟩ := h
  obtain ⟨rfl, rfl⟩ := does_valK h
  obtain ⟨g, c, cap, hm, hn, hux⟩ := hx.asl_
  have hlt : ¬ m < n := by omega
  refine Step.pure_ hi (cv := .pointer (some ⟨g, off, none⟩)) ?_ (.ptr _ _ _ _ hm)
  simp [execOp, hux, Instr.arrayAt, run_underlying hu, hlt]
end
end
end Go.AM
