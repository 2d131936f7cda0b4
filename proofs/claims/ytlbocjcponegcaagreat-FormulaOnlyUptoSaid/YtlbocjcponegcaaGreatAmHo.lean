/- formula.walk with the closures of Names, Cols, Nodes. -/
import Derived.Test.YtlbocjcponegcaaGreatAmHm
import Derived.Test.YtlbocjcponegcaaGreatAmHn
import Derived.Shelf.SortM.Plain
import Derived.Shelf.SortM.SortNone
import Derived.Ground.GgzProg
import Derived.Ground.SlgmProg
set_option linter.unusedVariables false
set_option linter.unusedSimpArgs false
set_option maxRecDepth 100000
namespace Go.Proofs.YtlbocjcponegcaaGreat
open Go.AM
abbrev nmF : FuncId := 61
abbrev ncF : FuncId := 65
theorem nname_ret (x : Xp) (es : List (ByteArray × Unit)) : Ret Tryz.prog 61 [eE x, .ptr 0 0] [.cells [.map 1], setS es] (.tup []) [.cells [.map 1], setS (nameS x es)] := by
  obtain ⟨k, o, n, s, v, sc, p, l⟩ := x
  have hP : mput [.s n] [.bool true] (encM kN cT es) = encM kN cT (aput n () es) := mput_enc (ev := cT) kN_inj n () es
  rw [show nameS (.mk k o n s v sc p l) es = if k = 2 then aput n () es else es from rfl]
  rw [cE_mk]
  by_cases h : k = 2
  · subst h
    refine ret_of_body atCalls tok mixed Tryz.func61 (by kernel_rfl) rfl (k := 9) (rs := []) (by kernel_rfl) (by kernel_rfl) ?_
    (conv => whnf) <;> repeat' (first | ((first | refine wN ?_ | refine wNc ?_ | refine wA ?_ | refine wB ?_ | refine wC ?_ | refine wD ?_ | refine vA ?_ | refine vB ?_ | refine vC ?_ | refine vD ?_ | refine uA ?_ | refine uB ?_ | refine uC ?_ | refine uD ?_); conv => whnf) | ((first | apply Pick.dec | apply Pick.beq | apply Cond.dec | apply Cond.beq | apply Cond.nd | apply Pick.nd | apply Pick.mk | apply Cond.mk) <;> intro h <;> conv => whnf))
    rw [hP]
    exact EndH.mk [0, 1] rfl rfl rfl
  · rw [if_neg h]
    refine ret_of_body atCalls tok mixed Tryz.func61 (by kernel_rfl) rfl (k := 9) (rs := []) (by kernel_rfl) (by kernel_rfl) ?_
    (conv => whnf) <;> repeat' (first | ((first | refine wN ?_ | refine wNc ?_ | refine wA ?_ | refine wB ?_ | refine wC ?_ | refine wD ?_ | refine vA ?_ | refine vB ?_ | refine vC ?_ | refine vD ?_ | refine uA ?_ | refine uB ?_ | refine uC ?_ | refine uD ?_); conv => whnf) | ((first | apply Pick.dec | apply Pick.beq | apply Cond.dec | apply Cond.beq | apply Cond.nd | apply Pick.nd | apply Pick.mk | apply Cond.mk) <;> intro h <;> conv => whnf))
    exact EndH.mk [0, 1] rfl rfl rfl
theorem ncol_ret (x : Xp) (es : List (CK × Unit)) : Ret Tryz.prog 65 [eE x, .ptr 0 0] [.cells [.map 1], setC es] (.tup []) [.cells [.map 1], setC (colS x es)] := by
  obtain ⟨k, o, n, s, v, sc, p, l⟩ := x
  have hc : Ret Tryz.prog 41 [eE (.mk k o n s v sc p l)] [] (eCK (colK o s n)) [] := fcolumn_ret (.mk k o n s v sc p l)
  have hP : mput [.s (colK o s n).1, .s (colK o s n).2] [.bool true] (encM kC cT es) = encM kC cT (aput (colK o s n) () es) := mput_enc (ev := cT) kC_inj (colK o s n) () es
  rw [show colS (.mk k o n s v sc p l) es = if k = 10 then aput (colK o s n) () es else es from rfl]
  rw [cE_mk] at hc ⊢
  by_cases h : k = 10
  · subst h
    refine ret_of_body atCalls tok mixed Tryz.func65 (by kernel_rfl) rfl (k := 9) (rs := []) (by kernel_rfl) (by kernel_rfl) ?_
    (conv => whnf) <;> repeat' (first | ((first | refine wN ?_ | refine wNc ?_ | refine wA ?_ | refine wB ?_ | refine wC ?_ | refine wD ?_ | refine Called.mk _ _ (hc) ?_ | refine vA ?_ | refine vB ?_ | refine vC ?_ | refine vD ?_ | refine uA ?_ | refine uB ?_ | refine uC ?_ | refine uD ?_); conv => whnf) | ((first | apply Pick.dec | apply Pick.beq | apply Cond.dec | apply Cond.beq | apply Cond.nd | apply Pick.nd | apply Pick.mk | apply Cond.mk) <;> intro h <;> conv => whnf))
    rw [hP]
    exact EndH.mk [0, 1] rfl rfl rfl
  · rw [if_neg h]
    refine ret_of_body atCalls tok mixed Tryz.func65 (by kernel_rfl) rfl (k := 9) (rs := []) (by kernel_rfl) (by kernel_rfl) ?_
    (conv => whnf) <;> repeat' (first | ((first | refine wN ?_ | refine wNc ?_ | refine wA ?_ | refine wB ?_ | refine wC ?_ | refine wD ?_ | refine vA ?_ | refine vB ?_ | refine vC ?_ | refine vD ?_ | refine uA ?_ | refine uB ?_ | refine uC ?_ | refine uD ?_); conv => whnf) | ((first | apply Pick.dec | apply Pick.beq | apply Cond.dec | apply Cond.beq | apply Cond.nd | apply Pick.nd | apply Pick.mk | apply Cond.mk) <;> intro h <;> conv => whnf))
    exact EndH.mk [0, 1] rfl rfl rfl
set_option maxHeartbeats 4000000 in
theorem nnamewalk_ret (x : Xp) : x.Wf → ∀ es : List (ByteArray × Unit), Ret Tryz.prog 60 [eE x, .fn 61 [] [.ptr 0 0]] [.cells [.map 1], setS es] (.tup []) [.cells [.map 1], setS (walkF nameS x es)] := by
  refine Xp.ind (Q := fun x => x.Wf → ∀ es : List (ByteArray × Unit), Ret Tryz.prog 60 [eE x, .fn 61 [] [.ptr 0 0]] [.cells [.map 1], setS es] (.tup []) [.cells [.map 1], setS (walkF nameS x es)]) ?_ x
  clear x
  intro x ih hx es
  obtain ⟨k, o, n, s, v, sc, p, l⟩ := x
  have hlen : l.length ≤ maxLen := hx.one.len
  have hm : maxLen ≤ 9223372036854775807 := by decide
  have hw' : ∀ y, y ∈ l → y.Wf := fun y hy => hx.arg hy
  have hn := nname_ret (.mk k o n s v sc p l) es
  rw [walkF_mk]
  generalize nameS (.mk k o n s v sc p l) es = es1 at *
  rw [cE_mk] at hn ⊢
  refine ret_of_body atCalls tok mixed Tryz.func60 (by kernel_rfl) rfl (k := 20) (rs := []) (by kernel_rfl) (by kernel_rfl) ?_
  (conv => whnf) <;> repeat' (first | (refine CalledH.mk [0, 1] _ _ rfl (Nat.le_refl _) hn ?_; conv => whnf) | ((first | refine wN ?_ | refine wNc ?_ | refine wA ?_ | refine wB ?_ | refine wC ?_ | refine wD ?_ | refine vA ?_ | refine vB ?_ | refine vC ?_ | refine vD ?_ | refine uA ?_ | refine uB ?_ | refine uC ?_ | refine uD ?_); conv => whnf) | ((first | apply Pick.dec | apply Pick.beq | apply Cond.dec | apply Cond.beq | apply Cond.nd | apply Pick.nd | apply Pick.mk | apply Cond.mk) <;> intro h <;> conv => whnf))
  intro I hw hs
  have turn : ∀ (m i : Nat) (e2 : List (ByteArray × Unit)), i + m = l.length → walkL nameS l es1 = walkL nameS (l.drop i) e2 →
      I [.und, .fn nmF [] [.ptr 0 0], .und, .und, .und, .und, .und, .und, .und, .und, .ext 17 l.length (Xp.rows l), .int .i64 (l.length : Int), .int .i64 (i : Int), .und, .und, .und, .und, .und, .und, .und] [.cells [.map 1], setS e2] := by
    intro m
    induction m with
    | zero =>
      intro i e2 hi ha
      apply hs
      conv => whnf
      refine Cond.ff (decF (by omega)) ?_
      (conv => whnf) <;> repeat' (first | ((first | refine wN ?_ | refine wNc ?_ | refine wA ?_ | refine wB ?_ | refine wC ?_ | refine wD ?_ | refine vA ?_ | refine vB ?_ | refine vC ?_ | refine vD ?_ | refine uA ?_ | refine uB ?_ | refine uC ?_ | refine uD ?_); conv => whnf) | ((first | apply Pick.dec | apply Pick.beq | apply Cond.dec | apply Cond.beq | apply Cond.nd | apply Pick.nd | apply Pick.mk | apply Cond.mk) <;> intro h <;> conv => whnf))
      refine EndH.mk [0, 1] rfl rfl ?_
      rw [ha, List.drop_of_length_le (by omega), walkL_nil]; rfl
    | succ m im =>
      intro i e2 hi ha
      have hil : i < l.length := by omega
      have gk : Xp.rows l (Int.toNat (i : Int)) = cE l[i] := by rw [Int.toNat_natCast]; exact (Xp.rows_ext l).2 i hil
      have e1 : IntKind.i64.wrap ((i : Int) + 1) = ((i + 1 : Nat) : Int) := by rw [wi64_id (by omega) (by omega)]; omega
      have hc := ih l[i] (List.getElem_mem hil) (hw' _ (List.getElem_mem hil)) e2
      rw [List.drop_eq_getElem_cons hil] at ha
      generalize l[i] = y at *
      rw [walkL_cons] at ha
      apply hs
      conv => whnf
      refine Cond.tt (decT (by omega)) ?_
      (conv => whnf) <;> repeat' (first | ((conv => arg 1; whnf); rw [gk]; conv => whnf) | (refine CalledH.mk [0, 1] _ _ rfl (Nat.le_refl _) hc ?_; conv => whnf) | ((first | refine wN ?_ | refine wNc ?_ | refine wA ?_ | refine wB ?_ | refine wC ?_ | refine wD ?_ | refine vA ?_ | refine vB ?_ | refine vC ?_ | refine vD ?_ | refine uA ?_ | refine uB ?_ | refine uC ?_ | refine uD ?_); conv => whnf) | ((first | apply Pick.dec | apply Pick.beq | apply Cond.dec | apply Cond.beq | apply Cond.nd | apply Pick.nd | apply Pick.mk | apply Cond.mk) <;> intro h <;> conv => whnf))
      rw [e1]
      apply hw [0, 1] [false, true, false, false, false, false, false, false, false, false, true, true, true] _ _ rfl
      exact im (i + 1) _ (by omega) ha
  apply hw [0, 1] [false, true, false, false, false, false, false, false, false, false, true, true, true] _ _ rfl
  exact turn l.length 0 es1 (by omega) rfl
set_option maxHeartbeats 4000000 in
theorem ncolwalk_ret (x : Xp) : x.Wf → ∀ es : List (CK × Unit), Ret Tryz.prog 60 [eE x, .fn 65 [] [.ptr 0 0]] [.cells [.map 1], setC es] (.tup []) [.cells [.map 1], setC (walkF colS x es)] := by
  refine Xp.ind (Q := fun x => x.Wf → ∀ es : List (CK × Unit), Ret Tryz.prog 60 [eE x, .fn 65 [] [.ptr 0 0]] [.cells [.map 1], setC es] (.tup []) [.cells [.map 1], setC (walkF colS x es)]) ?_ x
  clear x
  intro x ih hx es
  obtain ⟨k, o, n, s, v, sc, p, l⟩ := x
  have hlen : l.length ≤ maxLen := hx.one.len
  have hm : maxLen ≤ 9223372036854775807 := by decide
  have hw' : ∀ y, y ∈ l → y.Wf := fun y hy => hx.arg hy
  have hn := ncol_ret (.mk k o n s v sc p l) es
  rw [walkF_mk]
  generalize colS (.mk k o n s v sc p l) es = es1 at *
  rw [cE_mk] at hn ⊢
  refine ret_of_body atCalls tok mixed Tryz.func60 (by kernel_rfl) rfl (k := 20) (rs := []) (by kernel_rfl) (by kernel_rfl) ?_
  (conv => whnf) <;> repeat' (first | (refine CalledH.mk [0, 1] _ _ rfl (Nat.le_refl _) hn ?_; conv => whnf) | ((first | refine wN ?_ | refine wNc ?_ | refine wA ?_ | refine wB ?_ | refine wC ?_ | refine wD ?_ | refine vA ?_ | refine vB ?_ | refine vC ?_ | refine vD ?_ | refine uA ?_ | refine uB ?_ | refine uC ?_ | refine uD ?_); conv => whnf) | ((first | apply Pick.dec | apply Pick.beq | apply Cond.dec | apply Cond.beq | apply Cond.nd | apply Pick.nd | apply Pick.mk | apply Cond.mk) <;> intro h <;> conv => whnf))
  intro I hw hs
  have turn : ∀ (m i : Nat) (e2 : List (CK × Unit)), i + m = l.length → walkL colS l es1 = walkL colS (l.drop i) e2 →
      I [.und, .fn ncF [] [.ptr 0 0], .und, .und, .und, .und, .und, .und, .und, .und, .ext 17 l.length (Xp.rows l), .int .i64 (l.length : Int), .int .i64 (i : Int), .und, .und, .und, .und, .und, .und, .und] [.cells [.map 1], setC e2] := by
    intro m
    induction m with
    | zero =>
      intro i e2 hi ha
      apply hs
      conv => whnf
      refine Cond.ff (decF (by omega)) ?_
      (conv => whnf) <;> repeat' (first | ((first | refine wN ?_ | refine wNc ?_ | refine wA ?_ | refine wB ?_ | refine wC ?_ | refine wD ?_ | refine vA ?_ | refine vB ?_ | refine vC ?_ | refine vD ?_ | refine uA ?_ | refine uB ?_ | refine uC ?_ | refine uD ?_); conv => whnf) | ((first | apply Pick.dec | apply Pick.beq | apply Cond.dec | apply Cond.beq | apply Cond.nd | apply Pick.nd | apply Pick.mk | apply Cond.mk) <;> intro h <;> conv => whnf))
      refine EndH.mk [0, 1] rfl rfl ?_
      rw [ha, List.drop_of_length_le (by omega), walkL_nil]; rfl
    | succ m im =>
      intro i e2 hi ha
      have hil : i < l.length := by omega
      have gk : Xp.rows l (Int.toNat (i : Int)) = cE l[i] := by rw [Int.toNat_natCast]; exact (Xp.rows_ext l).2 i hil
      have e1 : IntKind.i64.wrap ((i : Int) + 1) = ((i + 1 : Nat) : Int) := by rw [wi64_id (by omega) (by omega)]; omega
      have hc := ih l[i] (List.getElem_mem hil) (hw' _ (List.getElem_mem hil)) e2
      rw [List.drop_eq_getElem_cons hil] at ha
      generalize l[i] = y at *
      rw [walkL_cons] at ha
      apply hs
      conv => whnf
      refine Cond.tt (decT (by omega)) ?_
      (conv => whnf) <;> repeat' (first | ((conv => arg 1; whnf); rw [gk]; conv => whnf) | (refine CalledH.mk [0, 1] _ _ rfl (Nat.le_refl _) hc ?_; conv => whnf) | ((first | refine wN ?_ | refine wNc ?_ | refine wA ?_ | refine wB ?_ | refine wC ?_ | refine wD ?_ | refine vA ?_ | refine vB ?_ | refine vC ?_ | refine vD ?_ | refine uA ?_ | refine uB ?_ | refine uC ?_ | refine uD ?_); conv => whnf) | ((first | apply Pick.dec | apply Pick.beq | apply Cond.dec | apply Cond.beq | apply Cond.nd | apply Pick.nd | apply Pick.mk | apply Cond.mk) <;> intro h <;> conv => whnf))
      rw [e1]
      apply hw [0, 1] [false, true, false, false, false, false, false, false, false, false, true, true, true] _ _ rfl
      exact im (i + 1) _ (by omega) ha
  apply hw [0, 1] [false, true, false, false, false, false, false, false, false, false, true, true, true] _ _ rfl
  exact turn l.length 0 es1 (by omega) rfl
end Go.Proofs.YtlbocjcponegcaaGreat

set_option linter.unusedVariables false
set_option linter.unusedSimpArgs false
set_option maxRecDepth 100000
namespace Go.Proofs
open Go.RowKit Go.Maps Go.Sort Go.Shelf
shelf_lay_g SlLaysZ.n7 Ggz 7 at Tryz 63 as Tryz.keysA
shelf_lay_g SlLaysZ.n6 Ggz 6 at Tryz 62 as Tryz.sortedA
shelf_lay_g SlLaysM.n6 Slgm 6 at Tryz 107 as Tryz.sortA
theorem Tryz.sortsA (m : Nat) : AnyZ.SortsIn Tryz.prog Tryz.sortedA_ren Fence.wide m :=
  ⟨fun blk off cap ss W hH hblk hsz => callsIn_wide.2 (AnyM.slices_Sort_string Tryz.sortA blk off cap ss W hH hblk hsz),
   fun p cap W => callsIn_wide.2 (AnyM.slices_Sort_string_none Tryz.sortA p cap W)⟩
end Go.Proofs
namespace Go.Proofs.YtlbocjcponegcaaGreat
open Go.AM Go.RowKit Go.Maps Go.Sort Go.Shelf
theorem sortedS_ret (es : List (ByteArray × Unit)) (hl : ∀ p ∈ es, p.1.size ≤ maxLen) (hn : es.length * 16 ≤ 140737488355328) :
    Ret Tryz.prog 62 [.fn 108 [] [.ptr 0 0]] [.cells [.map 1], setS es] (eL 1 cB (textsS es)) [.cells [.map 1], setS es] := by
  rw [← sortedK_enc]
  refine sorted_ret (k := 9) ⟨_, _, Tryz.func62, by kernel_rfl, rfl⟩ Tryz.underlying9 ?_ (fun p hp => ?_) (by simpa [encM] using hn)
  · intro Bm b nn D0 R w hBm hcell hown hmax hbytes
    refine (callsIn_wide (n := 6)).1 ?_
    have hseq : SeqGives Fence.wide 3 Tryz.prog 108 #[.pointer (some ⟨Bm, 0, none⟩)] encStr (fun ss => ss.Perm (strKeys D0)) (Maps.size D0) w :=
      AnyZ.keys_gives (ρ := Tryz.keysA_ren) { Tryz.keysA with } Fence.wide _ trivial rfl (by omega) Bm b nn D0 w hBm hcell hown
    exact AnyZ.sorted_in Tryz.sortedA Fence.wide 6 trivial trivial trivial trivial rfl (by omega) (Tryz.sortsA _) (enters_of Tryz.func107 (by kernel_rfl) rfl) 108 #[.pointer (some ⟨Bm, 0, none⟩)] trivial (enters_of Tryz.func108 (by kernel_rfl) rfl) _ _ hmax hbytes w hseq
  · obtain ⟨q, hq, rfl⟩ := List.mem_map.1 hp
    exact hl q hq
theorem keysS_ret (es : List (ByteArray × Unit)) : Ret Tryz.prog 63 [.map 0] [setS es] (.fn 108 [] [.ptr 1 0]) [setS es, .cells [.map 0]] := by
  refine ret_of_body atCalls tok mixed Tryz.func63 (by kernel_rfl) rfl (k := 4) (rs := [.tmp 2]) (by kernel_rfl) (by kernel_rfl) ?_
  (conv => whnf) <;> repeat' (first | ((first | refine wN ?_ | refine wNc ?_ | refine wA ?_ | refine wB ?_ | refine wC ?_ | refine wD ?_ | refine vA ?_ | refine vB ?_ | refine vC ?_ | refine vD ?_ | refine uA ?_ | refine uB ?_ | refine uC ?_ | refine uD ?_); conv => whnf) | ((first | apply Pick.dec | apply Pick.beq | apply Cond.dec | apply Cond.beq | apply Cond.nd | apply Pick.nd | apply Pick.mk | apply Cond.mk) <;> intro h <;> conv => whnf))
  exact EndH.mk [0, 1] rfl rfl rfl
set_option maxHeartbeats 4000000 in
/-- formula.Names -/
theorem fnames_ret (x : Xp) (hx : x.Wf) (hl : ∀ p ∈ walkF nameS x [], p.1.size ≤ maxLen) (hn : (walkF nameS x []).length * 16 ≤ 140737488355328) :
    Ret Tryz.prog 22 [eE x] [] (eL 1 cB (textsS (walkF nameS x []))) [] := by
  have h := nnamewalk_ret x hx []
  generalize walkF nameS x [] = es at *
  have h1 := keysS_ret es
  have h2 := sortedS_ret es hl hn
  obtain ⟨k, o, n, s, v, sc, p, l⟩ := x
  rw [cE_mk] at h ⊢
  refine ret_of_body atCalls tok mixed Tryz.func22 (by kernel_rfl) rfl (k := 11) (rs := [.tmp 2]) (by kernel_rfl) (by kernel_rfl) ?_
  (conv => whnf) <;> repeat' (first | (refine CalledH.mk [2, 1] _ _ rfl (Nat.le_refl _) h ?_; conv => whnf) | (refine CalledH.mk [1] _ _ rfl (by simp) h1 ?_; conv => whnf) | (refine CalledH.mk [3, 1] _ _ rfl (Nat.le_refl _) h2 ?_; conv => whnf) | ((first | refine wN ?_ | refine wNc ?_ | refine wA ?_ | refine wB ?_ | refine wC ?_ | refine wD ?_ | refine vA ?_ | refine vB ?_ | refine vC ?_ | refine vD ?_ | refine uA ?_ | refine uB ?_ | refine uC ?_ | refine uD ?_); conv => whnf) | ((first | apply Pick.dec | apply Pick.beq | apply Cond.dec | apply Cond.beq | apply Cond.nd | apply Pick.nd | apply Pick.mk | apply Cond.mk) <;> intro h <;> conv => whnf))
  exact End.mk rfl rfl
end Go.Proofs.YtlbocjcponegcaaGreat

