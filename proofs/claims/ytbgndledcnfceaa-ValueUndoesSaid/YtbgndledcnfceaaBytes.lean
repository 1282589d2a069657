/- Rows of bytes that a call makes out of a string, writes into and turns back. No condition. -/
import Derived.Test.YtbgndledcnfceaaBase
import Derived.Laws.IdiomStrings
namespace Go.Proofs.Ytbgndledcnfceaa
open Go.ChangeShapes Go.WideShapes Go.ChangeAt Go.RowKit

/-- Block B begins with the bytes l, and they may be written. -/
def BytesAt (w : World) (B : Nat) (l : List UInt8) : Prop := ∀ j (h : j < l.length), w.cell? ⟨B, j, none⟩ = some (.int .u8 l[j].toNat) ∧ w.frozen? ⟨B, j, none⟩ = false

theorem BytesAt.cell {w : World} {B : Nat} {l : List UInt8} (h : BytesAt w B l) (j : Nat) (hj : j < l.length) : w.cell? ⟨B, j, none⟩ = some (.int .u8 l[j].toNat) := (h j hj).1
theorem BytesAt.free {w : World} {B : Nat} {l : List UInt8} (h : BytesAt w B l) (j : Nat) (hj : j < l.length) : w.frozen? ⟨B, j, none⟩ = false := (h j hj).2

theorem bytesAt_string (w : World) (s : ByteArray) (c : Nat) (e : TypeId) :
    BytesAt (w.alloc (.cells (bytesRow s c) e ((bytesRow s c).size, (bytesRow s c).size + 1))) w.heap.size s.data.toList := by
  intro j hj
  have hj' : j < s.data.size := by simpa using hj
  have hsz : s.data.size ≤ (bytesRow s c).size := by simp [bytesRow]
  constructor
  · rw [World.cell?_alloc_mark]
    unfold bytesRow
    rw [Array.getElem?_append_left (by simpa using hj')]
    simp
    exact ⟨_, Array.getElem?_eq_getElem hj', rfl⟩
  · unfold World.frozen?
    have : (w.alloc (.cells (bytesRow s c) e ((bytesRow s c).size, (bytesRow s c).size + 1))).heap[w.heap.size]? = some (.cells (bytesRow s c) e ((bytesRow s c).size, (bytesRow s c).size + 1)) := by
      show (w.heap.push _)[w.heap.size]? = _
      simp
    simp only [this]
    simp
    intro h
    omega
theorem BytesAt.drew {w : World} {B : Nat} {l : List UInt8} (h : BytesAt w B l) : BytesAt w.drew B l := h
theorem BytesAt.drewN {w : World} {B : Nat} {l : List UInt8} (h : BytesAt w B l) (n : Nat) : BytesAt (w.drewN n) B l := h
theorem BytesAt.setCell {w : World} {B : Nat} {l : List UInt8} (h : BytesAt w B l) (k : Nat) (hk : k < l.length) (c : UInt8) : BytesAt (w.setCell ⟨B, k, none⟩ (.int .u8 c.toNat)) B (l.set k c) := by
  intro j hj
  have hj' : j < l.length := by simpa using hj
  constructor
  · by_cases e : k = j
    · subst e
      rw [World.cell?_setCell_same _ _ _ (h.cell k hk)]
      simp
    · have hne : (⟨B, k, none⟩ : Addr) ≠ ⟨B, j, none⟩ := fun x => e (congrArg Addr.off x)
      rw [World.cell?_setCell_other _ _ _ _ hne, h.cell j hj', List.getElem_set_ne e]
  · rw [World.frozen?_setCell]
    exact h.free j hj'
theorem BytesAt.below {w w' : World} {B B' : Nat} {l : List UInt8} (h : BytesAt w B l) (hb : Below B' w w') (hB : B < B') : BytesAt w' B l := fun j hj =>
  ⟨(hb.cell (p := ⟨B, j, none⟩) hB).trans (h.cell j hj), (hb.frozen (p := ⟨B, j, none⟩) hB).trans (h.free j hj)⟩
theorem bytes_back {P : Program} (w : World) (src dst e : TypeId) (B cap n : Nat) (l : List UInt8) (hn : n = l.length) (hs : P.underlying src = some (.slice e)) (he : P.underlying e = some (.int .u8)) (hd : P.underlying dst = some .string)
    (hB : BytesAt w B l) : (convert src dst (.slice (some ⟨B, 0, none⟩) n cap)).run P w = .ok (.string ⟨l.toArray⟩) w := by
  subst hn
  refine run_convert_bytes_back w src dst e ⟨B, 0, none⟩ cap l hs he hd ?_
  intro j hj
  have e : (⟨B, 0, none⟩ : Addr).add j = ⟨B, j, none⟩ := by
    unfold Addr.add
    split
    · rename_i h; rw [h]
    · simp
  rw [e]
  exact hB.cell j hj
theorem bytes_back_from {P : Program} (w : World) (src dst e : TypeId) (B cap n off : Nat) (l : List UInt8) (hn : n = l.length - off) (ho : off ≤ l.length) (hs : P.underlying src = some (.slice e)) (he : P.underlying e = some (.int .u8)) (hd : P.underlying dst = some .string)
    (hB : BytesAt w B l) : (convert src dst (.slice (some ⟨B, off, none⟩) n cap)).run P w = .ok (.string ⟨(l.drop off).toArray⟩) w := by
  have e0 : n = (l.drop off).length := by rw [List.length_drop]; exact hn
  rw [e0]
  refine run_convert_bytes_back w src dst e ⟨B, off, none⟩ cap (l.drop off) hs he hd ?_
  intro j hj
  have e : (⟨B, off, none⟩ : Addr).add j = ⟨B, off + j, none⟩ := by
    unfold Addr.add
    split
    · rename_i h; rw [h]; rfl
    · rfl
  rw [e, List.getElem_drop]
  exact hB.cell (off + j) (by rw [List.length_drop] at hj; omega)
theorem bytesAt_zeros (w : World) (n : Nat) (e : TypeId) : BytesAt (w.alloc (.cells (Array.replicate n (Value.int .u8 0)) e)) w.heap.size (List.replicate n 0) := by
  intro j hj
  have hj' : j < n := by simpa using hj
  constructor
  · rw [World.cell?_alloc_mark]
    simp [hj']
  · unfold World.frozen?
    have : (w.alloc (.cells (Array.replicate n (Value.int .u8 0)) e)).heap[w.heap.size]? = some (.cells (Array.replicate n (Value.int .u8 0)) e) := by
      show (w.heap.push _)[w.heap.size]? = _
      simp
    simp only [this]
    simp
/-- 'a[q:]' of a whole array in a block of its own. -/
theorem slice_arr {P : Program} (t e n : Nat) (ht : P.underlying t = some (.array n e)) (hl : P.arrayLen t = n) (he : P.elem t = e) (hz : ∀ w, (sizeOf e).run P w = .ok 1 w) (B q : Nat) (i : Int) (hi : i = (q : Int)) (hq : q < n) (W : World) :
    (Instr.sliceAt t (.pointer (some ⟨B, 0, none⟩)) (some (.int .i64 i)) none none).run P W = .ok (.slice (some ⟨B, q, none⟩) (n - q) (n - q)) W := by
  subst hi
  rw [run_sliceAt_array_l W t ⟨B, 0, none⟩ (by rw [hl, he]; exact ht) .i64 (q : Int) (by omega) (by rw [hl]; omega), hl, he, hz]
  simp only [Result.andThen, slicedAt, Int.toNat_natCast]
  rw [if_neg (by omega)]
  unfold Addr.add
  split
  · rename_i h
    have : q = 0 := by omega
    subst this
    rfl
  · simp
/-- 'string([]byte{c})' -/
theorem conv_one {P : Program} (src dst e : TypeId) (hs : P.underlying src = some (.slice e)) (he : P.underlying e = some (.int .u8)) (hd : P.underlying dst = some .string) (c : UInt8) (x : Int) (hx : x = (c.toNat : Int)) :
    ∀ (W : World) (B cap : Nat), W.cell? ⟨B, 0, none⟩ = some (.int .u8 x) → (convert src dst (.slice (some ⟨B, 0, none⟩) 1 cap)).run P W = .ok (.string ⟨#[c]⟩) W := by
  intro W B cap h
  subst hx
  refine run_convert_bytes_back W src dst e ⟨B, 0, none⟩ cap [c] hs he hd ?_
  intro j hj
  have : j = 0 := by simpa using hj
  subst this
  exact h
theorem u8_of_nat (c : UInt8) (n : Int) (h : n = (c.toNat : Int)) : Value.int .u8 n = .int .u8 (c.toNat : Int) := by rw [h]
end Go.Proofs.Ytbgndledcnfceaa
