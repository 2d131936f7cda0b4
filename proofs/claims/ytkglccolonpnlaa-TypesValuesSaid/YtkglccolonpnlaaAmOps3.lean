/- The operations one by one: addresses, aggregates, numbers. -/
import Derived.Test.YtkglccolonpnlaaAmOps2
set_option linter.unusedVariables false
set_option linter.unusedSimpArgs false
set_option maxRecDepth 100000
namespace Go.AM
noncomputable section
open Go.RowKit

theorem goodF_get {P : Program} : ∀ {ds : List TD} {fs : List Field} {o f o' : Nat} {d : TD}, GoodF P ds fs o → fieldAt ds f o = some (o', d) → ∃ fi, fs[f]? = some fi ∧ fi.offset = o' ∧ Good P d fi.type
  | [], _, _, _, _, _, _, h => by cases h
  | x :: ds, [], _, _, _, _, h, _ => by simp [GoodF] at h
  | x :: ds, fi :: fs, o, 0, o', d, h, e => by
    simp only [GoodF] at h
    simp only [fieldAt, Option.some.injEq, Prod.mk.injEq] at e
    obtain ⟨rfl, rfl⟩ := e
    exact ⟨fi, rfl, h.1, h.2.2.1⟩
  | x :: ds, fi :: fs, o, f + 1, o', d, h, e => by
    simp only [GoodF] at h
    obtain ⟨fi', h1, h2⟩ := goodF_get h.2.2.2 (by simpa [fieldAt] using e)
    exact ⟨fi', by simpa using h1, h2⟩

section
variable {P : Program} {T : TypeId → TD} {a : Act} {w w0 : World} {S : Nat → Prop} {φ0 : Prot} {ι : Map} {φ : Prot} {H : Nat → Blk} {nid : Nat} {v : Val} {u : Upd} {r r' : List Nat} {tm : List Val}
variable {dst : Option Tmp} {ty : TypeId} {pos : String} {after : Array Edge} {guard : Option (Nat × Bool)}

theorem sound_store {t : TypeId} {x y : Operand} (hT : TOk P T) (hi : Inv w0 S φ0 ι φ H w) (ht : TmOk ι φ tm a.tmps) (h : Does (nb (T t) fun d => evK tm x fun a => evK tm y fun b => storeP d a b) H [] v u r') :
    Step P ⟨dst, .store t x y, ty, pos, after, guard⟩ a w w0 S φ0 ι φ H nid v u := by
  obtain ⟨hb, h⟩ := does_nb h
  rw [evK_eq, evK_eq] at h
  have hx := ht.ev x
  have hy := ht.ev y
  have hg := hT.good hb
  unfold Does storeP at h
  split at h
  · exact h.elim
  · exact h.elim
  · rename_i cs e
    rw [e] at hy
    exact sound_storeC hg hi hx (hy.cells (fun _ e => by cases e) (fun e => by cases e)) h
  · rename_i h1 h2 h3
    have hc := hy.cells (fun cs e => h2 cs e) (fun e => h1 e)
    have : cellsOf (evV tm y) = [evV tm y] := by
      cases e : evV tm y <;> first | rfl | exact absurd e (h3 _)
    rw [this] at hc
    exact sound_storeC hg hi hx hc h

theorem rptr_drop {cs : List Val} {A : Addr} {vals : Nat → Value} (hφ : ∀ j, j < cs.length → φ (A.add j) = some (vals j)) (h1 : ∀ j, j < cs.length → (vals j).oneCell' = true)
    (hr : ∀ j, j < cs.length → RelC φ (cs.getD j .und) (vals j)) (o : Nat) : Rel ι φ (.rptr (cs.drop o)) (.pointer (some (A.add o))) := by
  refine .c (.rptr _ _ (fun j => vals (o + j)) (fun j hj => ?_) (fun j hj => ?_) (fun j hj => ?_))
  · rw [List.length_drop] at hj; rw [add_add]; exact hφ _ (by omega)
  · rw [List.length_drop] at hj; exact h1 _ (by omega)
  · rw [List.length_drop] at hj; rw [getD_drop]; exact hr _ (by omega)

theorem sound_fieldAddr {t : TypeId} {x : Operand} {f : Nat} (hT : TOk P T) (hi : Inv w0 S φ0 ι φ H w) (ht : TmOk ι φ tm a.tmps) (h : Does (evK tm x fun x => fieldAddrP (T t) x f) H [] v u r') :
    Step P ⟨dst, .fieldAddr t x f, ty, pos, after, guard⟩ a w w0 S φ0 ι φ H nid v u := by
  rw [evK_eq] at h
  have hx := ht.ev x
  unfold Does fieldAddrP at h
  split at h
  case h_2 => exact h.elim
  rename_i fs hfs
  have hg : Good P (.struct fs) t := hfs ▸ hT.good (by rw [hfs]; simp)
  simp only [Good] at hg
  obtain ⟨⟨fields, hf, hgf⟩, _⟩ := hg
  split at h
  case h_2 => exact h.elim
  rename_i o d hfa
  obtain ⟨fi, hfi, ho, hd⟩ := goodF_get hgf hfa
  rw [Array.getElem?_toList] at hfi
  have run : ∀ {A : Addr}, a.eval x = .pointer (some A) → d.size ≠ 0 → (execOp a.eval ⟨dst, .fieldAddr t x f, ty, pos, after, guard⟩).run P w = .ok (.value (.pointer (some (A.add o)))) w := by
    intro A he hne
    simp [execOp, Instr.fieldAt, run_underlying hf, hfi, Instr.sureAddr, he, fieldPlace, hd.size_run, hne, ho]
  split at h
  case h_1 => exact h.elim
  rename_i hsz
  have hne : d.size ≠ 0 := by omega
  split at h
  · rename_i b off e
    rw [e] at hx
    obtain ⟨g, c, hm, he⟩ := hx.ptr_
    obtain ⟨rfl, rfl⟩ := does_valK h
    exact Step.pure_ hi (run he hne) (by rw [add_eq]; exact .ptr _ _ _ _ hm)
  · rename_i b s i j e
    rw [e] at hx
    obtain ⟨g, c, hm, he⟩ := hx.ep_
    obtain ⟨rfl, rfl⟩ := does_valK h
    exact Step.pure_ hi (run he hne) (by rw [add_eq, Nat.add_assoc]; exact .ep _ _ _ _ _ _ hm)
  · rename_i cs e
    rw [e] at hx
    obtain ⟨A, vals, he, hφ, h1, hr⟩ := hx.rptr_
    rw [dropK_eq] at h
    obtain ⟨rfl, rfl⟩ := does_valK h
    exact Step.pure_ hi (run he hne) (rptr_drop hφ h1 hr o)
  · exact h.elim

theorem sound_field {t : TypeId} {x : Operand} {f : Nat} (hT : TOk P T) (hi : Inv w0 S φ0 ι φ H w) (ht : TmOk ι φ tm a.tmps) (h : Does (evK tm x fun x => fieldP (T t) x f) H [] v u r') :
    Step P ⟨dst, .field t x f, ty, pos, after, guard⟩ a w w0 S φ0 ι φ H nid v u := by
  rw [evK_eq] at h
  have hx := ht.ev x
  unfold Does fieldP at h
  split at h
  case h_2 => exact h.elim
  rename_i fs cs hfs hcs
  have hg : Good P (.struct fs) t := hfs ▸ hT.good (by rw [hfs]; simp)
  simp only [Good] at hg
  obtain ⟨⟨fields, hf, hgf⟩, _⟩ := hg
  split at h
  case h_2 => exact h.elim
  rename_i o d hfa
  obtain ⟨fi, hfi, ho, hd⟩ := goodF_get hgf hfa
  rw [Array.getElem?_toList] at hfi
  rw [hcs] at hx
  obtain ⟨us, he, hs, h1, hr⟩ := hx.agg_
  obtain ⟨rfl, cv, hrun, hv⟩ := part_sound hd h (w := w) hs h1 hr
  refine Step.pure_ hi (cv := cv) ?_ hv
  simp [execOp, Instr.field, run_underlying hf, hfi, he, asAgg, ho, hrun]

theorem sound_indexAddr {t : TypeId} {x y : Operand} (hT : TOk P T) (hi : Inv w0 S φ0 ι φ H w) (ht : TmOk ι φ tm a.tmps) (h : Does (evK tm x fun x => evK tm y fun i => indexAddrP (T t) x i) H [] v u r') :
    Step P ⟨dst, .indexAddr t x y, ty, pos, after, guard⟩ a w w0 S φ0 ι φ H nid v u := by
  rw [evK_eq, evK_eq] at h
  have hx := ht.ev x
  have hy := ht.ev y
  unfold Does indexAddrP at h
  split at h
  case h_2 => exact h.elim
  rename_i k i e
  rw [e] at hy
  have hy := hy.int_
  split at h
  · rename_i n el hT2
    have hg : Good P (.arr n el) t := hT2 ▸ hT.good (by rw [hT2]; simp)
    simp only [Good] at hg
    obtain ⟨⟨et, hf, hel⟩, _⟩ := hg
    have run : ∀ {A : Addr}, a.eval x = .pointer (some A) → 0 ≤ i → i < n → (execOp a.eval ⟨dst, .indexAddr t x y, ty, pos, after, guard⟩).run P w = .ok (.value (.pointer (some (A.add (i.toNat * el.size))))) w := by
      intro A he h0 hn
      simp [execOp, Instr.indexAt, hy, asIntOf, run_underlying hf, Instr.sureAddr, he, h0, hn, hel.size_run]
    split at h
    · rename_i b off e2
      rw [e2] at hx
      obtain ⟨g, c, hm, he⟩ := hx.ptr_
      obtain ⟨hb, h⟩ := h
      obtain ⟨rfl, rfl⟩ := does_valK h
      exact Step.pure_ hi (run he hb.1 hb.2) (by rw [add_eq]; exact .ptr _ _ _ _ hm)
    · rename_i b s l j e2
      rw [e2] at hx
      obtain ⟨g, c, hm, he⟩ := hx.ep_
      obtain ⟨hb, h⟩ := h
      obtain ⟨rfl, rfl⟩ := does_valK h
      exact Step.pure_ hi (run he hb.1 hb.2) (by rw [add_eq, Nat.add_assoc]; exact .ep _ _ _ _ _ _ hm)
    · rename_i cs e2
      rw [e2] at hx
      obtain ⟨A, vals, he, hφ, h1, hr⟩ := hx.rptr_
      obtain ⟨hb, h⟩ := h
      rw [dropK_eq] at h
      obtain ⟨rfl, rfl⟩ := does_valK h
      exact Step.pure_ hi (run he hb.1 hb.2) (rptr_drop hφ h1 hr _)
    · exact h.elim
  · rename_i et sz by_ hT2
    have hg : Good P (.slice et sz by_) t := hT2 ▸ hT.good (by rw [hT2]; simp)
    simp only [Good] at hg
    obtain ⟨hf, ⟨inf, hin, hsz, _⟩, _⟩ := hg
    have run : ∀ {A : Addr} {n c : Nat}, a.eval x = .slice (some A) n c → 0 ≤ i → i < n → (execOp a.eval ⟨dst, .indexAddr t x y, ty, pos, after, guard⟩).run P w = .ok (.value (.pointer (some (A.add (i.toNat * sz))))) w := by
      intro A n c he h0 hn
      simp [execOp, Instr.indexAt, hy, asIntOf, run_underlying hf, he, h0, hn, sizeOf, run_info hin, hsz]
    split at h
    · rename_i s n get e2
      rw [e2] at hx
      obtain ⟨hb, h⟩ := h
      split at h
      case h_2 => exact h.elim
      rename_i hs
      rw [beq_iff_eq] at hs; subst hs
      obtain ⟨rfl, rfl⟩ := does_valK h
      rcases hx.ext_ with ⟨h0, _⟩ | ⟨A, c, vals, he, hc, hl, hφ, h1, hr⟩
      · omega
      · have hlt : i.toNat < n := by omega
        refine Step.pure_ hi (run he hb.1 hb.2) (.c (.rptr _ _ (fun j => vals i.toNat j) (fun j hj => ?_) (fun j hj => ?_) (fun j hj => ?_)))
        · rw [hl _ hlt] at hj; rw [add_add]; exact hφ _ _ hlt hj
        · rw [hl _ hlt] at hj; exact h1 _ _ hlt hj
        · rw [hl _ hlt] at hj; exact hr _ _ hlt hj
    · rename_i b n e2
      rw [e2] at hx
      obtain ⟨g, c, hm, hnc, he⟩ := hx.row_
      obtain ⟨hb, h⟩ := h
      obtain ⟨rfl, rfl⟩ := does_valK h
      exact Step.pure_ hi (run he hb.1 hb.2) (by rw [add_eq, Nat.zero_add]; exact .ep _ _ _ 0 _ _ hm)
    · exact h.elim
  · exact h.elim

theorem nthK_does : ∀ {vs : List Val} {j : Nat}, Does (nthK vs j valK) H r v u r' → u = [] ∧ j < vs.length ∧ v = vs.getD j .und
  | [], _, h => h.elim
  | x :: _, 0, h => by obtain ⟨rfl, rfl⟩ := does_valK h; exact ⟨rfl, by simp, rfl⟩
  | x :: vs, j + 1, h => by
    obtain ⟨h1, h2, h3⟩ := nthK_does (vs := vs) (j := j) h
    exact ⟨h1, by simp; omega, by simpa using h3⟩
theorem sound_extract {x : Operand} {j : Nat} (hi : Inv w0 S φ0 ι φ H w) (ht : TmOk ι φ tm a.tmps) (h : Does (evK tm x fun x => extractP x j) H [] v u r') :
    Step P ⟨dst, .extract x j, ty, pos, after, guard⟩ a w w0 S φ0 ι φ H nid v u := by
  rw [evK_eq] at h
  have hx := ht.ev x
  unfold Does extractP at h
  split at h
  case h_2 => exact h.elim
  rename_i vs e
  rw [e] at hx
  obtain ⟨us, he, hs, hr⟩ := hx.tup_
  obtain ⟨rfl, hj, rfl⟩ := nthK_does h
  refine Step.pure_ hi (cv := us.getD j undef) ?_ (hr j hj)
  have : us[j]? = some (us.getD j undef) := by rw [Array.getD_eq_getD_getElem?, Array.getElem?_eq_getElem (by omega)]; rfl
  generalize us.getD j undef = z at this
  simp [execOp, Instr.extract, he, this]

theorem sound_index {t : TypeId} {x y : Operand} (hT : TOk P T) (hi : Inv w0 S φ0 ι φ H w) (ht : TmOk ι φ tm a.tmps) (h : Does (evK tm x fun x => evK tm y fun i => indexP (T t) x i) H [] v u r') :
    Step P ⟨dst, .index t x y, ty, pos, after, guard⟩ a w w0 S φ0 ι φ H nid v u := by
  rw [evK_eq, evK_eq] at h
  have hx := ht.ev x
  have hy := ht.ev y
  unfold Does indexP at h
  split at h
  case h_2 => exact h.elim
  rename_i k i e
  rw [e] at hy
  have hy := hy.int_
  split at h
  · rename_i s hT2 e2
    have hg : Good P .str t := hT2 ▸ hT.good (by rw [hT2]; simp)
    simp only [Good] at hg
    rw [e2] at hx
    have hx := hx.str_
    obtain ⟨⟨h0, hn⟩, h⟩ := h
    obtain ⟨rfl, rfl⟩ := does_valK h
    refine Step.pure_ hi (cv := .int .u8 (bt s i)) ?_ (.c (.int _ _))
    have hlt : i.toNat < s.size := by omega
    have hb : bt s i = ((s[i.toNat]'hlt).toNat : Int) := by
      unfold bt
      have : s.data.toList[i.toNat]? = some (s[i.toNat]'hlt) := by
        rw [List.getElem?_eq_getElem (by rw [Array.length_toList]; exact hlt)]; rfl
      rw [this]
    rw [hb]
    simp [execOp, Instr.index, hy, hx, asIntOf, run_underlying hg.1, h0, hlt]
  · rename_i n el cs hT2 e2
    have hg : Good P (.arr n el) t := hT2 ▸ hT.good (by rw [hT2]; simp)
    simp only [Good] at hg
    obtain ⟨⟨et, hf, hel⟩, _⟩ := hg
    rw [e2] at hx
    obtain ⟨us, he, hs, h1, hr⟩ := hx.agg_
    obtain ⟨⟨h0, hn⟩, h⟩ := h
    obtain ⟨rfl, cv, hrun, hv⟩ := part_sound hel h (w := w) hs h1 hr
    refine Step.pure_ hi (cv := cv) ?_ hv
    simp [execOp, Instr.index, hy, he, asIntOf, run_underlying hf, h0, hn, hel.size_run, hrun]
  · exact h.elim

theorem sound_nilCheck {x : Operand} (hi : Inv w0 S φ0 ι φ H w) (ht : TmOk ι φ tm a.tmps) (h : Does (evK tm x fun x => match x with
    | .ptr b o => valK (.ptr b o)
    | .ep b s i j => valK (.ep b s i j)
    | .rptr cs => valK (.rptr cs)
    | .fn f a c => valK (.fn f a c)
    | _ => .fail) H [] v u r') : Step P ⟨dst, .nilCheck x, ty, pos, after, guard⟩ a w w0 S φ0 ι φ H nid v u := by
  rw [evK_eq] at h
  have hx := ht.ev x
  have key : ∀ {cv}, a.eval x = cv → (∃ A, cv = .pointer (some A)) ∨ (∃ f us ws, cv = .func (.func f) us ws) → Step P ⟨dst, .nilCheck x, ty, pos, after, guard⟩ a w w0 S φ0 ι φ H nid (evV tm x) [] := by
    rintro cv rfl (⟨A, he⟩ | ⟨f, us, ws, he⟩) <;> refine Step.pure_ hi (cv := a.eval x) ?_ hx <;> simp [execOp, he]
  split at h
  · rename_i b o e
    obtain ⟨rfl, rfl⟩ := does_valK h
    rw [← e]; rw [e] at hx
    obtain ⟨g, c, _, he⟩ := hx.ptr_
    exact key he (.inl ⟨_, rfl⟩)
  · rename_i b s i j e
    obtain ⟨rfl, rfl⟩ := does_valK h
    rw [← e]; rw [e] at hx
    obtain ⟨g, c, _, he⟩ := hx.ep_
    exact key he (.inl ⟨_, rfl⟩)
  · rename_i cs e
    obtain ⟨rfl, rfl⟩ := does_valK h
    rw [← e]; rw [e] at hx
    obtain ⟨A, vals, he, _⟩ := hx.rptr_
    exact key he (.inl ⟨_, rfl⟩)
  · rename_i f a' c e
    obtain ⟨rfl, rfl⟩ := does_valK h
    rw [← e]; rw [e] at hx
    obtain ⟨us, ws, he, _⟩ := hx.fn_
    exact key he (.inr ⟨_, _, _, rfl⟩)
  · exact h.elim
end
end
end Go.AM
