/- The operations one by one: append, len, min, max; all of them together. -/
import Derived.Test.YtkglccolonpnlaaAmOps7
set_option linter.unusedVariables false
set_option linter.unusedSimpArgs false
set_option maxRecDepth 100000
namespace Go.AM
noncomputable section
open Go.RowKit

section
variable {P : Program} {T : TypeId → TD} {a : Act} {w w0 : World} {S : Nat → Prop} {φ0 : Prot} {ι : Map} {φ : Prot} {H : Nat → Blk} {nid : Nat} {v : Val} {u : Upd} {r r' : List Nat} {tm : List Val}
variable {dst : Option Tmp} {ty : TypeId} {pos : String} {after : Array Edge} {guard : Option (Nat × Bool)}

theorem idx_lt {i j N sz : Nat} (hi : i < N) (hj : j < sz) : i * sz + j < N * sz := by
  calc i * sz + j < i * sz + sz := by omega
    _ = (i + 1) * sz := by rw [Nat.add_mul, Nat.one_mul]
    _ ≤ N * sz := Nat.mul_le_mul_right _ (by omega)
theorem idx_of {k N sz : Nat} (h0 : 0 < sz) (hk : k < N * sz) : ∃ i j, i < N ∧ j < sz ∧ k = i * sz + j :=
  ⟨k / sz, k % sz, by rw [Nat.div_lt_iff_lt_mul h0]; exact hk, Nat.mod_lt _ h0, by rw [Nat.mul_comm, Nat.div_add_mod]⟩

theorem grown_blk {N sz b cap : Nat} {e : TypeId} {G : Nat → List Val} {xs : List Value} {zc : Array Value} {pr : Nat} (h0 : 0 < sz) (hl : xs.length = N * sz) (hG : ∀ i, i < N → (G i).length = sz)
    (hrel : ∀ i j, i < N → j < sz → (xs.getD (i * sz + j) undef).oneCell' = true ∧ RelC φ ((G i).getD j .und) (xs.getD (i * sz + j) undef))
    (hzs : zc.size = sz) (hz : ∀ k, k < sz → (zc.getD k undef).oneCell' = true) (hcap : N ≤ cap) (hm : cap ≤ maxLen) (hpr : pr ≤ N) (hp : ∀ a v, φ a = some v → a.block < w.heap.size) :
    BlkOk (setM ι b (w.heap.size, cap)) φ (w.alloc (.cells (xs.toArray ++ Builtin.zeroCells zc (cap - N)) e)) b (.row e sz N G pr) := by
  have hs : (xs.toArray ++ Builtin.zeroCells zc (cap - N)).size = cap * sz := by
    rw [Array.size_append, List.size_toArray, size_zeroCells, hl, hzs, ← Nat.add_mul]; congr 1; omega
  have e1 : ∀ k, k < N * sz → (xs.toArray ++ Builtin.zeroCells zc (cap - N)).getD k undef = xs.getD k undef := fun k hk => by
    rw [Array.getD_eq_getD_getElem?, Array.getElem?_append_left (by simpa [hl] using hk), List.getD_eq_getElem?_getD]; simp
  have hm' : cap ≤ 9223372036854775807 := by simpa [maxLen] using hm
  refine ⟨w.heap.size, cap, _, by simp [setM], heap_new _ _, h0, hs, hcap, hm', hpr, hG, fun i j hi hj => ?_, fun k hk => ?_, fun off sp _ => ?_⟩
  · rw [e1 _ (idx_lt hi hj)]; exact (hrel i j hi hj).2
  · rcases Nat.lt_or_ge k (N * sz) with h | h
    · rw [e1 _ h]
      obtain ⟨i, j, hi, hj, rfl⟩ := idx_of h0 h
      exact (hrel i j hi hj).1
    · rw [hs] at hk
      rw [Array.getD_eq_getD_getElem?, Array.getElem?_append_right (by simpa [hl] using h)]
      unfold Builtin.zeroCells
      simp only [List.size_toArray, hl, hzs]
      have hq : (k - N * sz) % sz < sz := Nat.mod_lt _ h0
      rw [Array.getElem?_map, Array.getElem?_range, if_pos (by rw [Nat.sub_mul]; omega)]
      simp only [Option.map_some, Option.getD_some]
      have := hz _ hq
      rw [Array.getD_eq_getD_getElem?, Array.getElem?_eq_getElem (by omega)] at this
      rw [getElem!_def, Array.getElem?_eq_getElem (by omega)]
      exact this
  · cases hx : φ ⟨w.heap.size, off, sp⟩ with
    | none => rfl
    | some v => have := hp _ v hx; simp at this

/-- A block under a new name. -/
theorem Inv.rename (h : Inv w0 S φ0 ι φ H w) {b g c : Nat} {x : Blk} (hb : ι b = some (g, c)) (hx : H b = x) (hg : x ≠ .gone) (hn : ι nid = none) :
    Inv w0 S φ0 (setM ι nid (g, c)) φ (setH (setH H b .gone) nid x) w := by
  have hne : nid ≠ b := fun e => by rw [e, hb] at hn; cases hn
  have hm : MapLe ι (setM ι nid (g, c)) := setM_le hn
  have hHn : ∀ y, setH (setH H b .gone) nid x y ≠ .gone → y = nid ∨ (y ≠ nid ∧ y ≠ b ∧ H y ≠ .gone) := fun y hy => by
    unfold setH at hy
    by_cases h1 : y = nid
    · exact .inl h1
    · rw [if_neg h1] at hy
      by_cases h2 : y = b
      · rw [if_pos h2] at hy; exact absurd rfl hy
      · rw [if_neg h2] at hy; exact .inr ⟨h1, h2, hy⟩
  have hmm : ∀ y, y ≠ nid → setM ι nid (g, c) y = ι y := fun y hy => by simp [setM, hy]
  refine ⟨⟨fun y => ?_, fun y y' g1 c1 c2 hy hy' e e' => ?_, h.sim.prot⟩, h.keep, fun y g' c' hy e => ?_, h.new, h.le⟩
  · unfold setH
    by_cases h1 : y = nid
    · subst h1; rw [if_pos rfl]
      have hB := h.sim.blk b
      rw [hx] at hB
      cases x with
      | gone => trivial
      | cells cs =>
        obtain ⟨g1, c1, arr, t, e, hh, hs, hr, hf⟩ := hB
        rw [hb] at e; injection e with e; injection e with e1 e2; subst e1; subst e2
        exact ⟨g, c, arr, t, by simp [setM], hh, hs, fun i hi => ⟨(hr i hi).1, (hr i hi).2.mono hm (.refl _)⟩, hf⟩
      | row t sz n get pr =>
        obtain ⟨g1, c1, arr, e, rest⟩ := hB
        rw [hb] at e; injection e with e; injection e with e1 e2; subst e1; subst e2
        exact ⟨g, c, arr, by simp [setM], rest⟩
      | map kag vag ks es =>
        obtain ⟨g1, c1, arr, clock, e, rest⟩ := hB
        rw [hb] at e; injection e with e; injection e with e1 e2; subst e1; subst e2
        exact ⟨g, c, arr, clock, by simp [setM], rest⟩
    · rw [if_neg h1]
      by_cases h2 : y = b
      · rw [if_pos h2]; trivial
      · rw [if_neg h2]
        exact (h.sim.blk y).mono hm (.refl _) (fun _ _ _ _ => rfl) (fun _ _ _ _ _ _ h => h)
  · have hb' : H b ≠ .gone := by rw [hx]; exact hg
    rcases hHn y hy with rfl | ⟨h1, h2, h3⟩ <;> rcases hHn y' hy' with rfl | ⟨k1, k2, k3⟩
    · rfl
    · rw [hmm y' k1] at e'
      simp only [setM, if_true, Option.some.injEq, Prod.mk.injEq] at e
      obtain ⟨rfl, rfl⟩ := e
      exact absurd (h.sim.inj y' b _ _ _ k3 hb' e' hb) k2
    · rw [hmm y h1] at e
      simp only [setM, if_true, Option.some.injEq, Prod.mk.injEq] at e'
      obtain ⟨rfl, rfl⟩ := e'
      exact absurd (h.sim.inj y b _ _ _ h3 hb' e hb) h2
    · rw [hmm y h1] at e; rw [hmm y' k1] at e'
      exact h.sim.inj y y' g1 c1 c2 h3 k3 e e'
  · rcases hHn y hy with rfl | ⟨h1, h2, h3⟩
    · simp only [setM, if_true, Option.some.injEq, Prod.mk.injEq] at e
      obtain ⟨rfl, rfl⟩ := e
      exact h.own b _ _ (by rw [hx]; exact hg) hb
    · rw [hmm y h1] at e; exact h.own y g' c' h3 e

theorem range_getD (f : Nat → Value) {n k : Nat} (h : k < n) : ((List.range n).map f).getD k undef = f k := by
  simp [List.getD_eq_getElem?_getD, h]

theorem sound_append {t : TypeId} {x y : Operand} {cl : Call} (hcl : cl = ⟨.builtin .append, #[x, y], #[t, t]⟩) (hT : TOk P T) (hi : Inv w0 S φ0 ι φ H w) (ht : TmOk ι φ tm a.tmps) (hn : (∃ x, (nid, x) ∈ u) → ι nid = none)
    (h : Does (appendP T (T t) nid (evV tm x) (evV tm y)) H [] v u r') : Step P ⟨dst, .call cl, ty, pos, after, guard⟩ a w w0 S φ0 ι φ H nid v u := by
  have hx := ht.ev x
  have hy := ht.ev y
  have hex : (execOp a.eval ⟨dst, .call cl, ty, pos, after, guard⟩).run P w = (do pure (Next.value (← Builtin.append_ #[t, t] ty #[a.eval x, a.eval y]))).run P w := by
    subst hcl
    simp only [execOp, resolve, invoke, builtin, Sem.run_bind, Sem.run_pure, Result.andThen_ok, List.map_toArray, List.map_cons, List.map_nil]
  generalize evV tm x = vx at h hx
  generalize evV tm y = vy at h hy
  generalize a.eval x = cx at hx hex
  generalize a.eval y = cy at hy hex
  unfold Does appendP at h
  split at h
  case h_2 => exact h.elim
  rename_i e sz by_ hTt
  obtain ⟨hu, ie, hie, hse, hbe⟩ := Good.slice_ hT hTt
  split at h
  case h_2 => exact h.elim
  rename_i h0
  rw [decide_eq_true_eq] at h0
  obtain ⟨szy, m, gy, r2, h, A, c, rfl, hmc, hcs⟩ := seen_sound hy hi.sim h
  have zero : T e ≠ .bad → ∃ z, ie.zero = some z ∧ z.cells.size = sz ∧ ∀ k, k < sz → (z.cells.getD k undef).oneCell' = true := fun hb => by
    obtain ⟨i, z, hi', hs', hz, hzc, _⟩ := (hT.good hb).zok
    rw [hie] at hi'; injection hi' with e1; subst e1
    have hsz : z.cells.size = sz := by rw [← Array.length_toList, (hzc φ).1, TD.zero_length, ← hs', hse]
    refine ⟨z, hz, hsz, fun k hk => ?_⟩
    have := ((hzc φ).2 k (by rw [TD.zero_length, ← hs', hse]; exact hk)).1
    rwa [arr_getD] at this
  -- nothing is appended
  have none_ : ∀ {B : Option Addr} {n cap : Nat}, m = 0 → n ≤ cap → cx = .slice B n cap → (Builtin.append_ #[t, t] ty #[cx, .slice A m c]).run P w = .ok (.slice B n cap) w := by
    intro B n cap hm hnc hB
    subst hm; subst hB
    have hf : (Builtin.firstCells ie.size 0 (.slice A 0 c)).run P w = .ok #[] w := by
      cases A with
      | none => simp [Builtin.firstCells]
      | some A =>
        have := run_firstCells_some (P := P) w ie.size 0 A 0 c [] (by simp) (fun j u h => by simp at h)
        simpa using this
    cases B with
    | none => simp [Builtin.append_, run_underlying hu, sizeOf, typeInfo, hie, Builtin.lenOf, hnc, hf]
    | some B => simp [Builtin.append_, run_underlying hu, sizeOf, typeInfo, hie, Builtin.lenOf, hnc, hf, storeCells]
  -- what is appended
  have news_ : szy = sz → 0 < m → ∃ B, A = some B ∧ ∃ news : List Value, news.length = m * sz ∧ (∀ j u, news[j]? = some u → w.cell? (B.add j) = some u) ∧ (∀ i, i < m → (gy i).length = sz) ∧
      ∀ i j, i < m → j < sz → (news.getD (i * sz + j) undef).oneCell' = true ∧ RelC φ ((gy i).getD j .und) (news.getD (i * sz + j) undef) := by
    rintro rfl hm
    rcases hcs with ⟨rfl, _⟩ | ⟨B, rfl, hl, hcell⟩
    · omega
    refine ⟨B, rfl, (List.range (m * szy)).map fun k => (w.cell? (B.add k)).getD undef, by simp, fun j u hj => ?_, hl, fun i j hi hj => ?_⟩
    · rw [List.getElem?_map] at hj
      have hlt : j < m * szy := by
        rcases Nat.lt_or_ge j (m * szy) with h | h
        · exact h
        · rw [List.getElem?_eq_none (by simpa using h)] at hj; cases hj
      rw [List.getElem?_range hlt] at hj
      simp only [Option.map_some, Option.some.injEq] at hj
      obtain ⟨i, k, hi, hk, rfl⟩ := idx_of h0 hlt
      obtain ⟨y, hy, _⟩ := hcell i k hi hk
      rw [hy] at hj ⊢
      simpa using hj
    · rw [range_getD _ (idx_lt hi hj)]
      obtain ⟨y, hy, h1, h2⟩ := hcell i j hi hj
      rw [hy]; exact ⟨h1, h2⟩
  have mem1 : ∀ {l : List Value} {N : Nat}, l.length = N * sz → (∀ i j, i < N → j < sz → (l.getD (i * sz + j) undef).oneCell' = true) → ∀ u ∈ l, u.oneCell' = true := fun {l N} hl h => mem_getD fun k hk => by
    rw [hl] at hk
    obtain ⟨i, j, hi, hj, rfl⟩ := idx_of h0 hk
    exact h i j hi hj
  have fin : ∀ {cv : Value} {w' : World} {ι' : Map}, (Builtin.append_ #[t, t] ty #[cx, .slice A m c]).run P w = .ok cv w' → Rel ι' φ v cv → Inv w0 S φ0 ι' φ (applyF H u) w' → MapLe ι ι' → (∀ b, (b = nid → ∀ x, (nid, x) ∉ u) → ι' b = ι b) →
      Step P ⟨dst, .call cl, ty, pos, after, guard⟩ a w w0 S φ0 ι φ H nid v u := by
    intro cv w' ι' h1 h2 h3 h4 h5
    exact ⟨.value cv, cv, w', ι', φ, by rw [hex]; simp only [Sem.run_bind, h1, Result.andThen_ok, Sem.run_pure], .inl rfl, h2, h3, h4, .refl _, h5⟩
  -- to a row of length 0 that is not the call's own
  have fresh : ∀ {B : Option Addr}, cx = .slice B 0 0 → 0 < m → szy = sz → m * by_ ≤ 140737488355328 → m ≤ 4611686018427387904 → T e ≠ .bad → v = .row nid m → u = [(nid, .row e sz m gy 0)] →
      Step P ⟨dst, .call cl, ty, pos, after, guard⟩ a w w0 S φ0 ι φ H nid v u := by
    intro B hB hm hs hb h63 hbad hv hu'
    subst hv; subst hu'
    have hn := hn ⟨_, List.mem_singleton.2 rfl⟩
    obtain ⟨z, hz, hzs, hz1⟩ := zero hbad
    obtain ⟨D, rfl, news, hl, hnews, hgl, hrel⟩ := news_ hs hm
    have hml : m ≤ maxLen := by simp only [maxLen]; omega
    have hblk := grown_blk (ι := ι) (φ := φ) (w := w.drew) (b := nid) (cap := grownCap w m 0 e) (e := e) (pr := 0) h0 hl hgl hrel hzs hz1 (grownCap_ge w m 0 e) (grownCap_le_maxLen w m 0 e hml) (Nat.zero_le _) hi.prot_lt
    refine fin (cv := .slice (some ⟨w.heap.size, 0, none⟩) m (grownCap w m 0 e)) (ι' := setM ι nid (w.heap.size, grownCap w m 0 e)) (w' := w.drew.alloc (.cells (news.toArray ++ Builtin.zeroCells z.cells (grownCap w m 0 e - m)) e)) ?_
      (.row _ _ _ _ (by simp [setM]) (grownCap_ge w m 0 e)) ((hi.drew _).alloc hn hblk) (setM_le hn) (fun b hb => by
        have : b ≠ nid := fun e => hb e _ (List.mem_singleton.2 rfl)
        simp [setM, this])
    subst hB
    cases B with
    | none => exact run_append_nil (P := P) w t ty e ie z hu hie hz D m c news (by rw [hl, hse]) hnews hm (by omega) (by rw [hbe]; omega)
    | some B =>
      have := run_append_grow (P := P) w t ty e ie z hu hie hz B 0 0 [] (by simp) (fun j u h => by simp at h) D m c news (by rw [hl, hse]) hnews (by omega) (by omega) (by rw [Nat.zero_add]; exact growslice_fits hm (by rw [hbe]; exact hb))
      simpa using this
  split at h
  · -- nil
    have hB := hx.nils_
    split at h
    · obtain ⟨rfl, rfl⟩ := does_valK h
      refine fin (none_ rfl (Nat.le_refl _) hB) (.c .nils) hi (.refl _) fun _ _ => rfl
    · split at h
      · exact h.elim
      · rename_i m hbad
        obtain ⟨⟨hs, hb, h63⟩, hv, hu', _⟩ := h
        exact fresh hB (by omega) hs hb h63 (fun e => hbad e) hv.symm hu'.symm
  · obtain ⟨B, hB⟩ := hx.emp_
    split at h
    · obtain ⟨rfl, rfl⟩ := does_valK h
      exact fin (none_ rfl (Nat.le_refl _) hB) (.c (.emp B)) hi (.refl _) fun _ _ => rfl
    · split at h
      · exact h.elim
      · rename_i m hbad
        obtain ⟨⟨hs, hb, h63⟩, hv, hu', _⟩ := h
        exact fresh hB (by omega) hs hb h63 (fun e => hbad e) hv.symm hu'.symm
  · -- a row of the call's own
    rename_i b n _
    obtain ⟨g, cap, hm, hnc, hB⟩ := hx.row_
    unfold Does at h
    simp only [Prog.run] at h
    split at h
    case h_2 => exact h.elim
    rename_i e' sz' n' gx pr hbk
    split at h
    case h_2 => exact h.elim
    rename_i hb3
    simp only [Bool.and_eq_true, beq_iff_eq] at hb3
    obtain ⟨⟨rfl, rfl⟩, hbad⟩ := hb3
    have hbad : T e ≠ .bad := fun e1 => by rw [e1] at hbad; cases hbad
    obtain ⟨⟨hs, rfl, hb, h63⟩, hv, hu', _⟩ := h
    subst hv; subst hu'
    have hmem : ∀ {x y : Nat × Blk}, y ∈ [x, y] := by simp
    have hnn := hn ⟨_, hmem⟩
    have hBk := hi.sim.blk b
    rw [hbk] at hBk
    obtain ⟨arr, hheap, _, has, _, hcm, hpr, hlen, hcell, hone, hf⟩ := blk_row hBk hm
    have hNm : n + m ≤ maxLen := by simp only [maxLen]; omega
    have hbg : H b ≠ .gone := by rw [hbk]; simp
    have hnid : ι b = some (g, cap) := hm
    -- the old row's cells
    have olds : ∀ i j, i < n → j < sz → (arr.toList.take (n * sz)).getD (i * sz + j) undef = arr.getD (i * sz + j) undef := fun i j hi hj => by
      rw [← arr_getD arr, List.getD_eq_getElem?_getD, List.getElem?_take, if_pos (idx_lt hi hj), List.getD_eq_getElem?_getD]
    have hnsz : n * sz ≤ arr.size := by rw [has]; exact Nat.mul_le_mul_right _ hnc
    have hol : (arr.toList.take (n * sz)).length = n * sz := by rw [List.length_take, Array.length_toList]; omega
    have room : ∀ {w' : World} {arr' : Array Value}, n + m ≤ cap → w'.os = w.os → w'.tape = w.tape → w'.output = w.output → w'.heap.size = w.heap.size → (∀ k, k ≠ g → w'.heap[k]? = w.heap[k]?) →
        w'.heap[g]? = some (.cells arr' e (0, 0)) → arr'.size = cap * sz → (∀ i, i < arr'.size → (arr'.getD i undef).oneCell' = true) → (∀ k, k < n * sz → arr'[k]? = arr[k]?) →
        (∀ i, i < m → (gy i).length = sz) → (∀ i j, i < m → j < sz → RelC φ ((gy i).getD j .und) (arr'.getD ((n + i) * sz + j) undef)) →
        Inv w0 S φ0 (setM ι nid (g, cap)) φ (setH (setH H b .gone) nid (.row e sz (n + m) (fun i => if i < n then gx i else gy (i - n)) pr)) w' := by
      intro w' arr' hroom hos htape hout hsize hold hheap' has' hone' hsame hgl hnew
      have hx : BlkOk ι φ w' b (.row e sz (n + m) (fun i => if i < n then gx i else gy (i - n)) pr) := by
        refine ⟨g, cap, arr', hm, hheap', h0, has', hroom, hcm, by omega, fun i hi => ?_, fun i j hi hj => ?_, hone', hf⟩
        · by_cases hin : i < n
          · simp only [if_pos hin]; exact hlen i hin
          · simp only [if_neg hin]; exact hgl _ (by omega)
        · by_cases hin : i < n
          · simp only [if_pos hin]
            have := (hcell i j hin hj).2.2
            rw [Array.getD_eq_getD_getElem?] at this ⊢
            rw [hsame _ (idx_lt hin hj)]; exact this
          · simp only [if_neg hin]
            have := hnew (i - n) j (by omega) hj
            rwa [show n + (i - n) = i by omega] at this
      have h1 := hi.write hm hbg hos htape hout hsize hold (fun q z hq hqb => ?_) hx
      · have h2 := h1.rename (nid := nid) (x := .row e sz (n + m) (fun i => if i < n then gx i else gy (i - n)) pr) hm (by simp [setH]) (by simp) hnn
        have e1 : setH (setH (setH H b (.row e sz (n + m) (fun i => if i < n then gx i else gy (i - n)) pr)) b .gone) nid (.row e sz (n + m) (fun i => if i < n then gx i else gy (i - n)) pr) =
            setH (setH H b .gone) nid (.row e sz (n + m) (fun i => if i < n then gx i else gy (i - n)) pr) := by
          funext k; unfold setH; split
          · rfl
          · split <;> rfl
        rwa [e1] at h2
      · obtain ⟨qb, qo, qs⟩ := q
        simp only at hqb; subst hqb
        have hlt : qo < pr * sz := by
          rcases Nat.lt_or_ge qo (pr * sz) with h | h
          · exact h
          · rw [hf qo qs h] at hq; cases hq
        have hle : pr * sz ≤ n * sz := Nat.mul_le_mul_right _ hpr
        have hold' := hi.sim.prot _ _ hq
        simp only [World.cell?, hheap] at hold'
        simp only [World.cell?, hheap']
        rw [hsame _ (by omega)]; exact hold'
    rcases Nat.eq_zero_or_pos m with hm0 | hm0
    · subst hm0
      refine fin (none_ rfl hnc hB) (.row _ _ g cap (by simp [setM]) hnc) (room hnc rfl rfl rfl rfl (fun _ _ => rfl) hheap has hone (fun _ _ => rfl) (fun i hi => absurd hi (by omega)) (fun i j hi => absurd hi (by omega))) (setM_le hnn) (fun b hb => by
        have : b ≠ nid := fun e => hb e _ hmem
        simp [setM, this])
    · have hs : szy = sz := hs.resolve_left (by omega)
      obtain ⟨D, rfl, news, hl, hnews, hgl, hrel⟩ := news_ hs hm0
      have hn1 : ∀ u ∈ news, u.oneCell' = true := mem1 hl fun i j hi hj => (hrel i j hi hj).1
      by_cases hroom : n + m ≤ cap
      · have hfit : n * sz + news.length ≤ arr.size := by rw [hl, has, ← Nat.add_mul]; exact Nat.mul_le_mul_right _ hroom
        have hrun := run_append_room (P := P) w t ty e ie hu hie g n cap arr hheap D m c news (by rw [hl, hse]) hnews hn1 hroom (by rw [hse]; exact hfit)
        rw [hse] at hrun
        have hget : ∀ k, (arr.toList.take (n * sz) ++ news ++ arr.toList.drop (n * sz + news.length)).toArray.getD k undef = if n * sz ≤ k ∧ k < n * sz + news.length then news.getD (k - n * sz) undef else arr.getD k undef := fun k => by
          rw [toArr_getD, List.append_assoc, getD_splice undef (by simpa using hfit) k, arr_getD arr k]
        have hsz2 : (arr.toList.take (n * sz) ++ news ++ arr.toList.drop (n * sz + news.length)).toArray.size = arr.size := by
          rw [List.size_toArray, List.append_assoc, length_splice (by simpa using hfit), Array.length_toList]
        rw [← hB] at hrun
        refine fin hrun (.row _ _ g cap (by simp [setM]) hroom) (room hroom rfl rfl rfl (setRow_size _ _ _) (fun k hk => setRow_other w g k _ hk) (setRow_heap w g arr _ e _ hheap) (by rw [hsz2, has]) (fun k hk => ?_) (fun k hk => ?_) hgl (fun i j hi hj => ?_))
          (setM_le hnn) (fun b hb => by
        have : b ≠ nid := fun e => hb e _ hmem
        simp [setM, this])
        · rw [hsz2] at hk
          rw [hget]
          by_cases hk2 : n * sz ≤ k ∧ k < n * sz + news.length
          · rw [if_pos hk2]
            have : news.getD (k - n * sz) undef ∈ news := by
              rw [List.getD_eq_getElem?_getD, List.getElem?_eq_getElem (by omega)]; exact List.getElem_mem _
            exact hn1 _ this
          · rw [if_neg hk2]; exact hone k hk
        · rw [List.getElem?_toArray, List.append_assoc, List.getElem?_append_left (by rw [hol]; exact hk), List.getElem?_take, if_pos hk, Array.getElem?_toList]
        · rw [hget, Nat.add_mul, if_pos ⟨by omega, by rw [hl]; have := idx_lt hi hj; omega⟩, show n * sz + i * sz + j - n * sz = i * sz + j by omega]
          exact (hrel i j hi hj).2
      · have hlen' : (arr.toList.take (n * sz) ++ news).length = (n + m) * sz := by rw [List.length_append, hol, hl, Nat.add_mul]
        have hholds : ∀ j u, (arr.toList.take (n * sz))[j]? = some u → w.cell? ((⟨g, 0, none⟩ : Addr).add j) = some u := fun j u hj => by
          rw [List.getElem?_take] at hj
          split at hj
          · rw [add_eq, Nat.zero_add]
            simp only [World.cell?, hheap]
            simpa using hj
          · cases hj
        obtain ⟨z, hz, hzs, hz1⟩ := zero hbad
        have hrun := run_append_grow (P := P) w t ty e ie z hu hie hz ⟨g, 0, none⟩ n cap (arr.toList.take (n * sz)) (by rw [hol, hse]) hholds D m c news (by rw [hl, hse]) hnews (by omega) (by omega) (growslice_fits (by omega) (by rw [hbe]; exact hb))
        rw [← hB] at hrun
        have e1 : (arr.toList.take (n * sz)).toArray ++ news.toArray = (arr.toList.take (n * sz) ++ news).toArray := by apply Array.ext'; simp
        rw [e1] at hrun
        have hblk := grown_blk (ι := ι) (φ := φ) (w := w.drew) (b := nid) (cap := grownCap w (n + m) cap e) (e := e) (pr := pr) (N := n + m) (G := fun i => if i < n then gx i else gy (i - n)) h0 hlen' (fun i hi => ?_) (fun i j hi hj => ?_) hzs hz1
          (grownCap_ge w (n + m) cap e) (grownCap_le_maxLen w (n + m) cap e hNm) (by omega) hi.prot_lt
        · exact fin hrun (.row _ _ _ _ (by simp [setM]) (grownCap_ge w (n + m) cap e)) (((hi.drew _).forget b).alloc hnn hblk) (setM_le hnn) (fun b hb => by
        have : b ≠ nid := fun e => hb e _ hmem
        simp [setM, this])
        · by_cases hin : i < n
          · simp only [if_pos hin]; exact hlen i hin
          · simp only [if_neg hin]; exact hgl _ (by omega)
        · by_cases hin : i < n
          · simp only [if_pos hin]
            have : (arr.toList.take (n * sz) ++ news).getD (i * sz + j) undef = arr.getD (i * sz + j) undef := by
              rw [← olds i j hin hj, List.getD_eq_getElem?_getD, List.getElem?_append_left (by rw [hol]; exact idx_lt hin hj), List.getD_eq_getElem?_getD]
            rw [this]
            exact ⟨(hcell i j hin hj).2.1, (hcell i j hin hj).2.2⟩
          · simp only [if_neg hin]
            have hle : n * sz ≤ i * sz := Nat.mul_le_mul_right _ (by omega)
            have : (arr.toList.take (n * sz) ++ news).getD (i * sz + j) undef = news.getD ((i - n) * sz + j) undef := by
              rw [List.getD_eq_getElem?_getD, List.getElem?_append_right (by rw [hol]; omega), hol, List.getD_eq_getElem?_getD, Nat.sub_mul]
              congr 2; omega
            rw [this]
            exact hrel (i - n) j (by omega) hj
  · exact h.elim
end
end
end Go.AM
