/- The operations one by one: slices that are made, cut, converted, appended to. -/
import Derived.Test.YtkglccolonpnlaaAmOps5
import Derived.Lib.ConvBytes
import Derived.Laws.MakeOwn
import Derived.Laws.BytesString
set_option linter.unusedVariables false
set_option linter.unusedSimpArgs false
set_option maxRecDepth 100000
namespace Go.AM
noncomputable section
open Go.RowKit

section
variable {P : Program} {T : TypeId → TD} {a : Act} {w w0 : World} {S : Nat → Prop} {φ0 : Prot} {ι : Map} {φ : Prot} {H : Nat → Blk} {nid : Nat} {v : Val} {u : Upd} {r r' : List Nat} {tm : List Val}
variable {dst : Option Tmp} {ty : TypeId} {pos : String} {after : Array Edge} {guard : Option (Nat × Bool)}

theorem Good.slice_ {e : TypeId} {sz by_ : Nat} {t : TypeId} (hT : TOk P T) (h : T t = .slice e sz by_) : P.underlying t = some (.slice e) ∧ ∃ i, P.info? e = some i ∧ i.size = sz ∧ i.bytes = by_ := by
  have hg : Good P (.slice e sz by_) t := h ▸ hT.good (by rw [h]; simp)
  simp only [Good] at hg
  exact ⟨hg.1, hg.2.1⟩
theorem made_row {zl : List Val} {zc : Array Value} {n m sz b : Nat} {e : TypeId} (hz : CellsOk ι φ zl zc.toList) (hl : zl.length = sz) (h0 : 0 < sz) (hcl : closedL zl = true) (hnm : n ≤ m) (hm : m ≤ 9223372036854775807)
    (hp : ∀ a v, φ a = some v → a.block < w.heap.size) :
    BlkOk (setM ι b (w.heap.size, m)) φ (w.alloc (.cells (madeCells zc (m * sz)) e)) b (.row e sz n (fun _ => zl) 0) := by
  have hzs : zc.size = sz := by rw [← Array.length_toList, hz.1, hl]
  have get : ∀ k, k < m * sz → (madeCells zc (m * sz)).getD k undef = zc.toList.getD (k % sz) undef := fun k hk => by
    have hq : k % sz < sz := Nat.mod_lt _ h0
    unfold madeCells
    rw [arr_getD, Array.getD_eq_getD_getElem?, Array.getElem?_map, Array.getElem?_range, if_pos hk, hzs]
    simp only [Option.map_some, Option.getD_some]
    rw [Array.getD_eq_getD_getElem?, getElem!_def, Array.getElem?_eq_getElem (by omega)]
    rfl
  refine ⟨w.heap.size, m, _, by simp [setM], heap_new _ _, h0, size_madeCells _ _, hnm, hm, Nat.zero_le _, fun i _ => hl, fun i j hi hj => ?_, fun k hk => ?_, fun off sp _ => ?_⟩
  · have hlt : i * sz + j < m * sz := by
      calc i * sz + j < i * sz + sz := by omega
        _ = (i + 1) * sz := by rw [Nat.add_mul, Nat.one_mul]
        _ ≤ m * sz := Nat.mul_le_mul_right _ (by omega)
    rw [get _ hlt, Nat.mul_comm i sz, Nat.mul_add_mod, Nat.mod_eq_of_lt hj]
    exact (hz.2 j (by omega)).2.closed_ (closedL_get hcl (by omega))
  · rw [size_madeCells] at hk
    rw [get _ hk]
    exact (hz.2 _ (by rw [hl]; exact Nat.mod_lt _ h0)).1
  · cases hx : φ ⟨w.heap.size, off, sp⟩ with
    | none => rfl
    | some v => have := hp _ v hx; simp at this

theorem sound_makeSlice {t : TypeId} {x y : Operand} (hT : TOk P T) (hi : Inv w0 S φ0 ι φ H w) (ht : TmOk ι φ tm a.tmps) (hn : (∃ x, (nid, x) ∈ u) → ι nid = none)
    (h : Does (evK tm x fun l => evK tm y fun c => makeSliceP T (T t) nid l c) H [] v u r') : Step P ⟨dst, .makeSlice t x y, ty, pos, after, guard⟩ a w w0 S φ0 ι φ H nid v u := by
  rw [evK_eq, evK_eq] at h
  have hx := ht.ev x
  have hy := ht.ev y
  unfold Does makeSliceP at h
  split at h
  case h_2 => exact h.elim
  rename_i e sz by_ n m hTt ex ey
  rw [ex] at hx
  rw [ey] at hy
  obtain ⟨hu, ie', hie', hs', hb'⟩ := Good.slice_ hT hTt
  obtain ⟨hbe, h⟩ := does_nb h
  unfold Does at h
  split at h
  case h_2 => exact h.elim
  rename_i hb
  simp only [Bool.and_eq_true, decide_eq_true_eq, beq_iff_eq] at hb
  obtain ⟨⟨h0, hsz⟩, hcl⟩ := hb
  obtain ⟨⟨hn0, hnm, hby, hm⟩, rfl, rfl, _⟩ := h
  have hn := hn ⟨_, List.mem_singleton.2 rfl⟩
  obtain ⟨ie, z, hie, hse, hz, hzc, _⟩ := (hT.good hbe).zok
  rw [hie] at hie'; injection hie' with e1; subst e1
  have hzo : CellsOk ι φ (T e).zero z.cells.toList := ⟨(hzc φ).1, fun k hk => ⟨((hzc φ).2 k hk).1, .c ((hzc φ).2 k hk).2⟩⟩
  have hr := run_make (P := P) w t e ie z hu hie hz .i64 .i64 n m hn0 hnm (by rw [Int.mul_comm, hb']; omega) (by omega)
  rw [hs'] at hr
  refine Step.alloc_ hi hn (c := m.toNat) (cv := .slice (some ⟨w.heap.size, 0, none⟩) n.toNat m.toNat) (ob := .cells (madeCells z.cells (m.toNat * sz)) e) ?_ (made_row hzo (by rw [TD.zero_length, hsz]) h0 hcl (by omega) (by omega) hi.prot_lt)
    (.row _ _ _ m.toNat (by simp [setM]) (by omega))
  simp only [execOp, hx.int_, hy.int_, Sem.run_bind, hr, Result.andThen_ok, Sem.run_pure]

/-- A slice that is read. -/
theorem seen_sound {x : Val} {ux : Value} {K : Nat → Nat → (Nat → List Val) → Prog} (hx : Rel ι φ x ux) (hs : Sim ι φ H w) (h : Does (seenP x K) H r v u r') :
    ∃ sz n g r2, Does (K sz n g) H r2 v u r' ∧ (∃ A c, ux = .slice A n c ∧ n ≤ c ∧ ((n = 0 ∧ A = none ∧ c = 0) ∨ ∃ B, A = some B ∧ (∀ i, i < n → (g i).length = sz) ∧
      ∀ i j, i < n → j < sz → ∃ y, w.cell? (B.add (i * sz + j)) = some y ∧ y.oneCell' = true ∧ RelC φ ((g i).getD j .und) y)) := by
  unfold Does seenP at h
  split at h
  · refine ⟨1, 0, _, _, h, none, 0, hx.nils_, Nat.le_refl _, .inl ⟨rfl, rfl, rfl⟩⟩
  · obtain ⟨A, e⟩ := hx.emp_
    exact ⟨1, 0, _, _, h, some A, 0, e, Nat.le_refl _, .inr ⟨A, rfl, fun i hi => absurd hi (by omega), fun i j hi => absurd hi (by omega)⟩⟩
  · rename_i sz n g
    rcases hx.ext_ with ⟨rfl, e⟩ | ⟨A, c, vals, e, hc, hl, hφ, h1, hr⟩
    · exact ⟨sz, 0, g, _, h, none, 0, e, Nat.le_refl _, .inl ⟨rfl, rfl, rfl⟩⟩
    · exact ⟨sz, n, g, _, h, some A, c, e, hc, .inr ⟨A, rfl, hl, fun i j hi hj => ⟨_, hs.prot _ _ (hφ i j hi hj), h1 i j hi hj, hr i j hi hj⟩⟩⟩
  · rename_i b n
    obtain ⟨g, c, hm, hn, e⟩ := hx.row_
    simp only [Prog.run] at h
    split at h
    case h_2 => exact h.elim
    rename_i te sz m get pr hbk
    obtain ⟨hnm, h⟩ := h
    have hB := hs.blk b
    rw [hbk] at hB
    obtain ⟨arr, _, _, _, hmc, _, _, hl, hcell, _⟩ := blk_row hB hm
    exact ⟨sz, n, get, _, h, _, c, e, hn, .inr ⟨_, rfl, fun i hi => hl i (by omega), fun i j hi hj => ⟨_, by rw [add_eq, Nat.zero_add]; exact (hcell i j (by omega) hj).1, (hcell i j (by omega) hj).2⟩⟩⟩
  · exact h.elim

theorem push_data (s : ByteArray) (b : UInt8) : (s.push b).data = s.data.push b := rfl
theorem foldl_push : ∀ (ns : List Int) (s : ByteArray), (ns.foldl (fun r n => r.push (UInt8.ofNat n.toNat)) s).data = s.data ++ (ns.map fun n => UInt8.ofNat n.toNat).toArray
  | [], s => by simp
  | n :: ns, s => by rw [List.foldl_cons, foldl_push ns, push_data]; apply Array.ext'; simp
theorem bytes_run {A : Addr} {n c : Nat} {g : Nat → List Val} (hb : ∀ i, i < n → isByte (g i)) (hc : ∀ i, i < n → ∃ y, w.cell? (A.add i) = some y ∧ ∀ k m, g i = [.int k m] → y = .int k m) :
    (Conv.bytesToString (.slice (some A) n c)).run P w = .ok (.string (bytesStr n g)) w := by
  let f : Nat → Int := fun i => match g i with | [.int _ m] => m | _ => 0
  have hf : ∀ i, i < n → w.cell? (A.add i) = some (.int .u8 (f i)) := fun i hi => by
    obtain ⟨m, hm⟩ := hb i hi
    obtain ⟨y, hy, hv⟩ := hc i hi
    rw [hy, hv _ _ hm]
    simp only [f, hm]
  have hl := run_loadCells (P := P) w A n (fun i => .int .u8 (f i)) hf
  have hr := run_bytesToString (P := P) w A n c ((List.range n).map f) (by rw [hl]; congr 1; apply Array.ext'; simp [List.map_map, Function.comp_def])
  rw [hr]
  congr 2
  have e : ((List.range n).map f).foldl (fun r n => r.push (UInt8.ofNat n.toNat)) ByteArray.empty = bytesStr n g := by
    have h1 := foldl_push ((List.range n).map f) ByteArray.empty
    have h2 : (bytesStr n g).data = ByteArray.empty.data ++ (((List.range n).map f).map fun n => UInt8.ofNat n.toNat).toArray := by
      simp only [bytesStr, List.map_map]
      have : ByteArray.empty.data = #[] := rfl
      rw [this, Array.empty_append]
      congr 1
      refine List.map_congr_left fun i hi => ?_
      obtain ⟨m, hm⟩ := hb i (List.mem_range.1 hi)
      simp only [Function.comp_def, f, hm, byteOf]
    generalize ((List.range n).map f).foldl (fun r n => r.push (UInt8.ofNat n.toNat)) ByteArray.empty = x at h1
    rw [← h2] at h1
    cases x; cases hbs : bytesStr n g; rw [hbs] at h1; simp only at h1; rw [h1]
  rw [e]

theorem strOfK_ok : ∀ {c : List Val} {K : List UInt8 → Prog}, Does (strOfK c K) H r v u r' → ∃ ns : List Int, c = ns.map (.int .u8) ∧ Does (K (ns.map fun n => UInt8.ofNat n.toNat)) H r v u r'
  | [], K, h => ⟨[], rfl, h⟩
  | x :: l, K, h => by
    have key : ∀ (k : IntKind) (n : Int), x = .int k n → k = .u8 → ∃ ns : List Int, x :: l = ns.map (.int .u8) ∧ Does (K (ns.map fun n => UInt8.ofNat n.toNat)) H r v u r' := by
      rintro k n rfl rfl
      have h : Does (strOfK l fun bs => K (UInt8.ofNat n.toNat :: bs)) H r v u r' := h
      obtain ⟨ns, e, h⟩ := strOfK_ok h
      exact ⟨n :: ns, by rw [e]; rfl, h⟩
    cases x <;> first | exact h.elim | skip
    rename_i k n
    cases k <;> first | exact h.elim | exact key _ _ rfl rfl
theorem Rel.asl_ {b off n : Nat} {ux : Value} (h : Rel ι φ (.asl b off n) ux) : ∃ g c cap, ι b = some (g, c) ∧ n ≤ cap ∧ ux = .slice (some ⟨g, off, none⟩) n cap := by
  cases h with
  | c h => cases h
  | asl _ _ _ g c cap h hn => exact ⟨g, c, cap, h, hn, rfl⟩
/-- New memory that is never written again. -/
theorem Inv.shelter (h : Inv w0 S φ0 ι φ H w) {w' : World} {φ' : Prot} (hos : w'.os = w.os) (htape : w'.tape = w.tape) (hout : w'.output = w.output) (hsize : w.heap.size ≤ w'.heap.size)
    (hold : ∀ g, g < w.heap.size → w'.heap[g]? = w.heap[g]?) (hφ : ∀ a, a.block < w.heap.size → φ' a = φ a) (hnew : ∀ a v, φ' a = some v → w.heap.size ≤ a.block → w'.cell? a = some v) : Inv w0 S φ0 ι φ' H w' := by
  have hlt : ∀ a v, φ a = some v → a.block < w.heap.size := fun a v e => cell_lt (h.sim.prot a v e)
  have hle : ProtLe φ φ' := fun a v e => by rw [hφ a (hlt a v e)]; exact e
  have hcell : ∀ a : Addr, a.block < w.heap.size → w'.cell? a = w.cell? a := fun a ha => by simp only [World.cell?, hold a.block ha]
  refine ⟨⟨fun b => ?_, h.sim.inj, fun a v e => ?_⟩, ⟨hos.trans h.keep.os, htape.trans h.keep.tape, hout.trans h.keep.output, Nat.le_trans h.keep.size hsize, fun g hg hs => ?_⟩, h.own, fun a ha => ?_, h.le.trans hle⟩
  · have hp : ∀ g c, ι b = some (g, c) → H b ≠ .gone → g < w.heap.size := fun g c e hg => by
      obtain ⟨g', c', e', hl⟩ := (h.sim.blk b).place hg
      rw [e] at e'; injection e' with e'; injection e' with e1 _; omega
    exact (h.sim.blk b).mono (.refl _) hle (fun g c e hg => hold g (hp g c e hg)) (fun g c e hg off sp hn => by rw [hφ ⟨g, off, sp⟩ (hp g c e hg)]; exact hn)
  · rcases Nat.lt_or_ge a.block w.heap.size with hl | hl
    · rw [hcell a hl]; exact h.sim.prot a v (by rw [← hφ a hl]; exact e)
    · exact hnew a v e hl
  · rw [hold g (by have := h.keep.size; omega)]; exact h.keep.block g hg hs
  · rcases Nat.lt_or_ge a.block w.heap.size with hl | hl
    · exact h.new a (by rw [← hφ a hl]; exact ha)
    · exact .inr (.inr (by have := h.keep.size; omega))
theorem sound_toBytes {s t : TypeId} {x : Operand} {z : ByteArray} {e : TypeId} {us : TypeDesc} (hi : Inv w0 S φ0 ι φ H w) (hx : a.eval x = .string z) (hs : P.underlying s = some us) (hd : P.underlying t = some (.slice e)) (he : P.underlying e = some (.int .u8)) :
    Step P ⟨dst, .convert s t x, ty, pos, after, guard⟩ a w w0 S φ0 ι φ H nid (.ext 1 z.size fun i => [.int .u8 (bt z i)]) [] := by
  let φ' : Prot := fun q => if q.block = w.heap.size ∧ q.spot = none ∧ q.off < z.size then some (.int .u8 (bt z q.off)) else φ q
  have hbt : ∀ j, j < z.size → bt z (j : Nat) = ((z.data.toList.getD j 0).toNat : Int) := fun j hj => by
    unfold bt
    have hj' : j < z.data.toList.length := by simpa using hj
    rw [Int.toNat_natCast, List.getElem?_eq_getElem hj', List.getD_eq_getElem?_getD, List.getElem?_eq_getElem hj']; rfl
  have hlt : ∀ q v, φ q = some v → q.block < w.heap.size := fun q v e => cell_lt (hi.sim.prot q v e)
  have hle : ProtLe φ φ' := fun q v e => by
    have := hlt q v e
    simp only [φ']; rw [if_neg (by omega)]; exact e
  have hcell : ∀ q v, φ' q = some v → w.heap.size ≤ q.block → (Lib.bytesWorld w e z).cell? q = some v := fun q v hq hl => by
    simp only [φ'] at hq
    split at hq
    · rename_i hc
      obtain ⟨qb, qo, qs⟩ := q
      simp only at hc; obtain ⟨rfl, rfl, hlt⟩ := hc
      injection hq with hq; subst hq
      rw [Lib.bytesWorld_cell w e z qo hlt, hbt qo hlt]
    · have := hlt q v hq; omega
  have hI : Inv w0 S φ0 ι φ' H (Lib.bytesWorld w e z) := hi.shelter (by simp [Lib.bytesWorld, World.freeze, World.alloc, World.drew, -World.alloc_eq, -World.drew_eq]) (by simp [Lib.bytesWorld, World.freeze, World.alloc, World.drew, -World.alloc_eq, -World.drew_eq])
    (by simp [Lib.bytesWorld, World.freeze, World.alloc, World.drew, -World.alloc_eq, -World.drew_eq]) (by rw [Lib.bytesWorld_size]; omega) (fun g hg => Lib.bytesWorld_at_old w e z g hg)
    (fun q hq => by simp only [φ']; rw [if_neg (by omega)]) hcell
  have hcap : z.size ≤ grownCap w z.size 0 e := grownCap_ge w _ _ _
  refine ⟨.value (.slice (some ⟨w.heap.size, 0, none⟩) z.size (grownCap w z.size 0 e)), _, _, ι, φ', ?_, .inl rfl, .c (.ext 1 z.size _ _ _ (fun i _ => .int .u8 (bt z i)) hcap (fun _ _ => rfl) (fun i j h0 h1 => ?_) (fun _ _ _ _ => rfl) (fun i j _ h1 => ?_)), hI, .refl _, hle, fun _ _ => rfl⟩
  · simp [execOp, hx, Lib.run_convert_string_bytes w s t e z hs hd he]
  · have : j = 0 := by omega
    subst this
    simp only [φ', add_eq, Nat.zero_add, Nat.mul_one, Nat.add_zero]
    rw [if_pos ⟨trivial, trivial, h0⟩]
  · have : j = 0 := by omega
    subst this
    exact .int .u8 _
theorem sound_convert {s t : TypeId} {x : Operand} (hT : TOk P T) (hi : Inv w0 S φ0 ι φ H w) (ht : TmOk ι φ tm a.tmps) (h : Does (evK tm x fun x => convP T (T s) (T t) x) H [] v u r') :
    Step P ⟨dst, .convert s t x, ty, pos, after, guard⟩ a w w0 S φ0 ι φ H nid v u := by
  rw [evK_eq] at h
  have hx := ht.ev x
  generalize evV tm x = vx at h hx
  unfold Does convP at h
  have byteT : ∀ {e : TypeId}, T e = .int .u8 → P.underlying e = some (.int .u8) := fun {e} he => by
    have hg : Good P (.int .u8) e := he ▸ hT.good (by rw [he]; simp)
    simp only [Good] at hg; exact hg.1
  have strT : T t = .str → P.underlying t = some .string := fun he => by
    have hg : Good P .str t := he ▸ hT.good (by rw [he]; simp)
    simp only [Good] at hg; exact hg.1
  split at h
  · rename_i k0 k k' n hTs hTt
    obtain ⟨rfl, rfl⟩ := does_valK h
    have hg : Good P (.int k) t := hTt ▸ hT.good (by rw [hTt]; simp)
    have hg2 : Good P (.int k0) s := hTs ▸ hT.good (by rw [hTs]; simp)
    simp only [Good] at hg hg2
    refine Step.pure_ hi (cv := .int k (k.wrap n)) ?_ (.c (.int _ _))
    simp [execOp, hx.int_, convert, run_underlying hg.1, run_underlying hg2.1, Conv.intToInt]
  · rename_i z hTs hTt
    obtain ⟨rfl, rfl⟩ := does_valK h
    have hg : Good P .str s := hTs ▸ hT.good (by rw [hTs]; simp)
    simp only [Good] at hg
    refine Step.pure_ hi (cv := .string z) ?_ (.c (.str _))
    simp [execOp, hx.str_, convert, run_underlying hg.1, run_underlying (strT hTt)]
  · rename_i e by_ z hTs hTt
    split at h
    case h_2 => exact h.elim
    rename_i he
    obtain ⟨rfl, rfl⟩ := does_valK h
    have hg : Good P .str s := hTs ▸ hT.good (by rw [hTs]; simp)
    have hg2 : Good P (.slice e 1 by_) t := hTt ▸ hT.good (by rw [hTt]; simp)
    simp only [Good] at hg hg2
    exact sound_toBytes hi hx.str_ hg.1 hg2.1 (byteT he)
  · rename_i e by_ bl off n hTs hTt
    obtain ⟨hu, _⟩ := Good.slice_ hT hTs
    split at h
    case h_2 => exact h.elim
    rename_i he
    simp only [Prog.run] at h
    split at h
    case h_2 => exact h.elim
    rename_i cs hbk
    rw [dropK_eq, takeK_eq] at h
    split at h
    case h_2 => exact h.elim
    rename_i hl
    rw [beq_iff_eq] at hl
    obtain ⟨ns, hns, h⟩ := strOfK_ok h
    obtain ⟨rfl, rfl⟩ := does_valK h
    obtain ⟨g, c, cap, hm, hn, hux⟩ := hx.asl_
    have hB := hi.sim.blk bl
    rw [hbk] at hB
    obtain ⟨arr, t', hh, hs, _, hcell⟩ := blk_cell hB hm
    have hfit : n = 0 ∨ off + n ≤ cs.length := by rw [List.length_take, List.length_drop] at hl; omega
    have hnl : ns.length = n := by rw [← hl, hns, List.length_map]
    have hget : ∀ i, i < n → cs.getD (off + i) .und = .int .u8 (ns.getD i 0) := fun i hin => by
      rw [← getD_drop, ← getD_take hin, hns, List.getD_eq_getElem?_getD, List.getElem?_map, List.getElem?_eq_getElem (by omega), List.getD_eq_getElem?_getD, List.getElem?_eq_getElem (by omega)]; rfl
    have hr := bytes_run (P := P) (w := w) (A := ⟨g, off, none⟩) (n := n) (c := cap) (g := fun i => [.int .u8 (ns.getD i 0)]) (fun i _ => ⟨_, rfl⟩) (fun i hin => ⟨_, by rw [add_eq]; exact (hcell (off + i) (by omega)).1, fun k m e => by
      simp only [List.cons.injEq, and_true] at e
      have hrel := (hcell (off + i) (by omega)).2.2
      rw [hget i hin, e] at hrel
      exact hrel.int_⟩)
    have hstr : bytesStr n (fun i => [.int .u8 (ns.getD i 0)]) = ⟨(ns.map fun n => UInt8.ofNat n.toNat).toArray⟩ := by
      unfold bytesStr
      congr 2
      apply List.ext_getElem?
      intro i
      rw [List.getElem?_map, List.getElem?_map]
      rcases Nat.lt_or_ge i n with h | h
      · rw [List.getElem?_range h, List.getElem?_eq_getElem (by omega)]
        simp [byteOf, List.getD_eq_getElem?_getD, List.getElem?_eq_getElem (by omega : i < ns.length)]
      · rw [List.getElem?_eq_none (by simpa using h), List.getElem?_eq_none (by omega)]; rfl
    rw [hstr] at hr
    refine Step.pure_ hi (cv := .string ⟨(ns.map fun n => UInt8.ofNat n.toNat).toArray⟩) ?_ (.c (.str _))
    simp [execOp, hux, convert, run_underlying hu, run_underlying (strT hTt), run_underlying (byteT he), hr]
  · rename_i e by_ hTs hTt _
    obtain ⟨hu, _⟩ := Good.slice_ hT hTs
    split at h
    case h_2 => exact h.elim
    rename_i he
    obtain ⟨sz, n, g, r2, h, A, c, hux, hnc, hcs⟩ := seen_sound hx hi.sim h
    unfold Does at h
    split at h
    case h_2 => exact h.elim
    rename_i hsz
    rw [beq_iff_eq] at hsz; subst hsz
    obtain ⟨hby, h⟩ := h
    obtain ⟨rfl, rfl⟩ := does_valK h
    refine Step.pure_ hi (cv := .string (bytesStr n g)) ?_ (.c (.str _))
    rcases hcs with ⟨rfl, rfl, rfl⟩ | ⟨B, rfl, hl, hcell⟩
    · have : bytesStr 0 g = ByteArray.empty := rfl
      simp [execOp, hux, convert, run_underlying hu, run_underlying (strT hTt), run_underlying (byteT he), Conv.bytesToString, this]
    · have hr := bytes_run (P := P) (w := w) (A := B) (n := n) (c := c) (g := g) hby (fun i hin => by
        obtain ⟨y, hy, _, hrel⟩ := hcell i 0 hin (by omega)
        refine ⟨y, by simpa using hy, fun k m e => ?_⟩
        rw [e] at hrel
        exact (Rel.c (ι := ι) hrel).int_)
      simp [execOp, hux, convert, run_underlying hu, run_underlying (strT hTt), run_underlying (byteT he), hr]
  · exact h.elim
end
end
end Go.AM
