/- Texts of decimals, texts in quotes: bytes. -/
import Derived.Test.YtdpnhedbggnhiaaGreatAmQuo
import Derived.Test.YtdpnhedbggnhiaaGreatAmGL
import Derived.Test.YtdpnhedbggnhiaaGreatAmGX
import Derived.Lib.Repeat
set_option linter.unusedVariables false
set_option linter.unusedSimpArgs false
set_option maxRecDepth 100000
namespace Go.AM
/-! ### rows of bytes that grow -/
theorem pieces1 : ∀ (es : List Int), pieces 1 es.length (es.map fun e => Val.int .u8 e) = es.map fun e => [Val.int .u8 e]
  | [] => rfl
  | e :: es => by
    show _ :: pieces 1 es.length ((es.map fun e => Val.int .u8 e)) = _
    rw [pieces1 es]; rfl
theorem gl_more (ds es : List Int) : (fun i => if i < ds.length then gl ds i else (pieces 1 es.length (es.map fun e => Val.int .u8 e)).getD (i - ds.length) []) = gl (ds ++ es) := by
  funext i
  unfold gl
  split
  · rename_i h
    rw [List.getElem?_append_left h]
  · rename_i h
    rw [List.getElem?_append_right (by omega), pieces1, List.getD_eq_getElem?_getD, List.getElem?_map]
    cases es[i - ds.length]? <;> rfl
theorem gl_two (ds : List Int) (a b : Int) : (fun i => if i < ds.length then gl ds i else (pieces 1 2 [Val.int .u8 a, Val.int .u8 b]).getD (i - ds.length) []) = gl (ds ++ [a, b]) := gl_more ds [a, b]
theorem gl_four (ds : List Int) (a b c d : Int) : (fun i => if i < ds.length then gl ds i else (pieces 1 4 [Val.int .u8 a, Val.int .u8 b, Val.int .u8 c, Val.int .u8 d]).getD (i - ds.length) []) = gl (ds ++ [a, b, c, d]) := gl_more ds [a, b, c, d]
/-- bytes as numbers -/
def intsB (l : List UInt8) : List Int := l.map fun b => (b.toNat : Int)
theorem intsB_list (l : List UInt8) : byteList (intsB l) = ⟨l.toArray⟩ := by
  unfold byteList intsB
  rw [List.map_map]
  congr 2
  have : (l.map ((fun n : Int => UInt8.ofNat n.toNat) ∘ fun b : UInt8 => (b.toNat : Int))) = l.map id := List.map_congr_left fun b _ => by simp
  rw [this, List.map_id]
theorem intsB_app (a b : List UInt8) : intsB (a ++ b) = intsB a ++ intsB b := List.map_append ..
theorem intsB_len (a : List UInt8) : (intsB a).length = a.length := List.length_map ..
def hexB : ByteArray := ⟨#[48, 49, 50, 51, 52, 53, 54, 55, 56, 57, 97, 98, 99, 100, 101, 102]⟩
theorem hexB_at {n : Nat} (h : n < 16) : bt hexB (n : Int) = ((hexD n).toNat : Int) := by
  have : ∀ k : Fin 16, bt hexB ((k.val : Nat) : Int) = ((hexD k.val).toNat : Int) := by decide
  exact this ⟨n, h⟩
theorem bt_at {s : ByteArray} {k : Nat} {c : UInt8} (h : s.data.toList[k]? = some c) : bt s (k : Int) = (c.toNat : Int) := by
  unfold bt
  rw [Int.toNat_natCast, h]
theorem byte_hi {x : Int} {n : Nat} (h : x = (n : Int)) (hn : n < 256) : IntKind.u8.wrap (x.tdiv 16) = ((n / 16 : Nat) : Int) := by
  subst h
  rw [Int.tdiv_eq_ediv_of_nonneg (by omega), wrap8_id (by omega) (by omega)]
  omega
theorem byte_lo {x : Int} {n : Nat} (h : x = (n : Int)) : x.tmod 16 = ((n % 16 : Nat) : Int) := by
  subst h
  rw [Int.tmod_eq_emod_of_nonneg (by omega)]
  omega
/-! ### decimals -/
def zs (k : Nat) : ByteArray := ⟨(List.replicate k 48).toArray⟩
theorem zs_0 (t : ByteArray) : zs 0 ++ t = t := by
  apply ByteArray.ext
  rw [ByteArray.data_append]
  simp [zs]
theorem zs_size (k : Nat) : (zs k).size = k := by simp [zs, ByteArray.size]
theorem zs_succ (k : Nat) (t : ByteArray) : (⟨#[48]⟩ : ByteArray) ++ (zs k ++ t) = zs (k + 1) ++ t := by
  apply ByteArray.ext
  rw [ByteArray.data_append, ByteArray.data_append, ByteArray.data_append]
  apply Array.toList_inj.1
  simp [zs, List.replicate_succ]
/-- enough noughts ahead -/
def padB (s : ByteArray) (sc : Nat) : ByteArray := if s.size ≤ sc then zs (sc + 1 - s.size) ++ s else s
theorem padB_size (s : ByteArray) (sc : Nat) : sc < (padB s sc).size := by
  unfold padB
  split
  · rw [ByteArray.size_append, zs_size]; omega
  · omega
def pointB (s : ByteArray) (sc : Nat) : ByteArray := if 0 < sc then s.extract 0 (s.size - sc) ++ ⟨#[46]⟩ ++ s.extract (s.size - sc) s.size else s
def signB (neg : Bool) (s : ByteArray) : ByteArray := if neg then ⟨#[45]⟩ ++ s else s
def decTxt (d : D) : ByteArray := signB d.neg (pointB (padB (text d.n.v.toNat) d.scale.toNat) d.scale.toNat)
def valTxt (v : Vl) : ByteArray :=
  if ¬ v.valid then ⟨#[63]⟩ else
  if v.kind = 1 then decTxt v.num else if v.kind = 3 then ⟨(quoL v.text.data.toList).toArray⟩ else if v.kind = 4 then ⟨#[33]⟩ ++ ⟨#[UInt8.ofNat (48 + v.err.toNat)]⟩ else
  if v.kind = 2 then (if v.flag then ⟨#[116, 114, 117, 101]⟩ else ⟨#[102, 97, 108, 115, 101]⟩) else ⟨#[98, 108, 97, 110, 107]⟩
theorem text_size (n : Nat) : (text n).size ≤ 78 := by
  have h : (text n).size = (digits n).length := by
    unfold text byteList ByteArray.size
    simp
  rw [h]
  unfold digits
  split
  · simp
  · rw [List.length_reverse]; exact dl_len
theorem repeat_zs : ∀ c, Lib.repeatL [48] c = List.replicate c 48
  | 0 => rfl
  | c + 1 => by
    show [48] ++ Lib.repeatL [48] c = _
    rw [repeat_zs c, List.replicate_succ]; rfl
end Go.AM

