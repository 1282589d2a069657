/- Plain facts: texts as lists of bytes, rows of bytes, wrapped numbers, decimal digits. No condition. -/
import Derived.Test.YtdgjcdhomfhfpaaAb19
import Derived.IntWalk
import Derived.Laws.RangeString
import Derived.Laws.RangeAny
namespace Go.Proofs.Ytdgjcdhomfhfpaa
open Go.RowKit Go.IntWalk
set_option linter.unusedSimpArgs false
set_option linter.unusedVariables false

/-- the text of some bytes -/
def bs (l : List UInt8) : ByteArray := ⟨l.toArray⟩
theorem bs_of (s : ByteArray) : s = bs s.data.toList := by cases s; simp [bs]
theorem mk_bs (l : List UInt8) : ByteArray.mk l.toArray = bs l := rfl
theorem bs_size (l : List UInt8) : (bs l).size = l.length := by simp [bs, ByteArray.size]
theorem bs_data (l : List UInt8) : (bs l).data.toList = l := by simp [bs]
theorem bs_toList (l : List UInt8) : (bs l).toList = l := by rw [Lib.toList_data, bs_data]
theorem bs_inj (l m : List UInt8) : bs l = bs m ↔ l = m := by
  constructor
  · intro h
    have := congrArg (fun s : ByteArray => s.data.toList) h
    simpa [bs] using this
  · intro h; rw [h]
theorem ba_ext {a b : ByteArray} (h : a.data.toList = b.data.toList) : a = b := by rw [bs_of a, bs_of b, h]
theorem bs_append (l m : List UInt8) : bs l ++ bs m = bs (l ++ m) := by
  apply ba_ext
  rw [bs_data]
  simp [bs]
theorem bs_extract (l : List UInt8) (a b : Nat) : (bs l).extract a b = bs ((l.take b).drop a) := by
  apply ba_ext
  rw [bs_data, ByteArray.data_extract]
  simp [bs, List.drop_take]
theorem byteAt_bs (l : List UInt8) (i : Int) : byteAt (bs l) i = ((l.getD i.toNat 0).toNat : Int) := by
  simp [byteAt, bs, List.getD_eq_getElem?_getD, Array.getD_eq_getD_getElem?]
theorem bs_beq (l m : List UInt8) : ((bs l).toList == (bs m).toList) = (l == m) := by rw [bs_toList, bs_toList]

/-- rows of bytes -/
def bc (l : List UInt8) : List (List CV) := l.map fun b => [.v (.int .u8 (b.toNat : Int))]
theorem bc_cells (s : ByteArray) : byteCells s = bc s.data.toList := rfl
theorem bc_bs (l : List UInt8) : byteCells (bs l) = bc l := by rw [bc_cells, bs_data]
theorem bc_len (l : List UInt8) : (bc l).length = l.length := by simp [bc]
theorem bc_nil : ([] : List (List CV)) = bc [] := rfl
theorem bc_app (l m : List UInt8) : bc l ++ bc m = bc (l ++ m) := by simp [bc]
theorem bc_take (l : List UInt8) (n : Nat) : (bc l).take n = bc (l.take n) := by simp [bc]
theorem bc_drop (l : List UInt8) (n : Nat) : (bc l).drop n = bc (l.drop n) := by simp [bc]
theorem bc_str (l : List UInt8) : ByteArray.mk ((bc l).map fun el => UInt8.ofNat (el.getD 0 default).int.toNat).toArray = bs l := by
  unfold bs bc
  rw [List.map_map]
  congr 2
  conv => rhs; rw [← List.map_id l]
  apply List.map_congr_left
  intro b _
  simp [CV.int]
theorem bs_bc (l : List UInt8) : bs ((bc l).map fun el => UInt8.ofNat (el.getD 0 default).int.toNat) = bs l := bc_str l
theorem bc_all (l : List UInt8) : ∀ el ∈ bc l, ∃ z : Int, el = [.v (.int .u8 z)] := by
  intro el h
  simp only [bc, List.mem_map] at h
  obtain ⟨b, _, rfl⟩ := h
  exact ⟨_, rfl⟩
theorem bc_sz (l : List UInt8) : ∀ el ∈ bc l, el.length = 1 := by
  intro el h
  obtain ⟨z, rfl⟩ := bc_all l el h
  rfl
theorem bc_getD (l : List UInt8) (i : Nat) (h : i < l.length) : (bc l).getD i [] = [.v (.int .u8 ((l.getD i 0).toNat : Int))] := by
  simp [bc, List.getD_eq_getElem?_getD, h]
theorem bc_at (l : List UInt8) (i : Int) (h0 : 0 ≤ i) (h : i < l.length) : (cellAt (bc l) i 0).int = ((l.getD i.toNat 0).toNat : Int) := by
  unfold cellAt
  rw [bc_getD l i.toNat (by omega)]
  rfl
theorem bc_kind (l : List UInt8) (i : Int) (h0 : 0 ≤ i) (h : i < l.length) : [5] = ((((bc l).getD i.toNat []).drop 0).take 1).map kindC := by
  rw [bc_getD l i.toNat (by omega)]
  rfl
theorem bc_set (l : List UInt8) (i : Nat) (z : Int) (b : UInt8) (hz : z = (b.toNat : Int)) : (bc l).set i (overL ((bc l).getD i []) 0 [.v (.int .u8 z)]) = bc (l.set i b) := by
  subst hz
  by_cases h : i < l.length
  · rw [bc_getD l i h]
    simp [overL, bc, List.map_set]
  · rw [List.set_eq_of_length_le (by rw [bc_len]; omega), List.set_eq_of_length_le (by omega)]
theorem bc_rep (n : Nat) : List.replicate n [CV.v (.int .u8 0)] = bc (List.replicate n 0) := by simp [bc]
theorem u8_rng (b : UInt8) : 0 ≤ (b.toNat : Int) ∧ (b.toNat : Int) ≤ 255 := by
  have := b.toNat_lt
  omega
theorem u8_wr (b : UInt8) : IntKind.wrap .u8 (b.toNat : Int) = (b.toNat : Int) := u8_in _ (u8_rng b)
theorem u8_ext {a b : UInt8} (h : (a.toNat : Int) = (b.toNat : Int)) : a = b := UInt8.toNat_inj.1 (by omega)

/- decimal digits -/
def dig1 (n : Nat) : UInt8 := UInt8.ofNat (48 + n % 10)
def digs (n : Nat) : List UInt8 := if _h : n < 10 then [dig1 n] else digs (n / 10) ++ [dig1 n]
termination_by n
decreasing_by omega
theorem digs_lt {n : Nat} (h : n < 10) : digs n = [dig1 n] := by rw [digs]; simp [h]
theorem digs_ge {n : Nat} (h : ¬ n < 10) : digs n = digs (n / 10) ++ [dig1 n] := by rw [digs]; simp [h]
theorem digs_pos (n : Nat) : 0 < (digs n).length := by
  by_cases h : n < 10
  · rw [digs_lt h]; simp
  · rw [digs_ge h]; simp
theorem digs_len : ∀ (k n : Nat), n < 10 ^ (k + 1) → (digs n).length ≤ k + 1
  | 0, n, h => by rw [digs_lt (by simpa using h)]; simp
  | k + 1, n, h => by
    by_cases h1 : n < 10
    · rw [digs_lt h1]; simp
    · rw [digs_ge h1]
      have := digs_len k (n / 10) (by rw [Nat.pow_succ] at h; omega)
      simp
      omega
theorem digs_len19 (n : Nat) (h : n ≤ 9223372036854775808) : (digs n).length ≤ 19 := digs_len 18 n (by omega)
theorem dig1_toNat (n : Nat) : (dig1 n).toNat = 48 + n % 10 := by
  unfold dig1
  rw [UInt8.toNat_ofNat']
  omega
/-- the text of a number -/
def numL (n : Int) : List UInt8 := if n < 0 then 45 :: digs n.natAbs else digs n.natAbs
theorem numL_len (n : Int) (h : -9223372036854775808 ≤ n ∧ n ≤ 9223372036854775807) : (numL n).length ≤ 20 := by
  unfold numL
  have := digs_len19 n.natAbs (by omega)
  split
  · simp; omega
  · omega

/-- behind some rounds: the digits D are laid, the number r is left -/
def NumAt (N r : Nat) (first : Bool) (D : List UInt8) : Prop :=
  (first = true ∧ D = [] ∧ r = N) ∨ (first = false ∧ D ≠ [] ∧ (r = 0 → digs N = D) ∧ (r ≠ 0 → digs N = digs r ++ D))
theorem NumAt.room {N r : Nat} {first : Bool} {D : List UInt8} (h : NumAt N r first D) (hN : N ≤ 9223372036854775808) (hgo : first = true ∨ r ≠ 0) : D.length ≤ 18 := by
  have hl := digs_len19 N hN
  rcases h with ⟨h1, h2, h3⟩ | ⟨h1, h2, h3, h4⟩
  · simp [h2]
  · have := digs_pos r
    rcases hgo with hg | hg
    · rw [h1] at hg; cases hg
    · rw [h4 hg] at hl
      simp at hl
      omega
theorem NumAt.step {N r : Nat} {first : Bool} {D : List UInt8} (h : NumAt N r first D) (hgo : first = true ∨ r ≠ 0) : NumAt N (r / 10) false (dig1 r :: D) := by
  have key : (r / 10 = 0 → digs r = [dig1 r]) ∧ (r / 10 ≠ 0 → digs r = digs (r / 10) ++ [dig1 r]) :=
    ⟨fun h => digs_lt (by omega), fun h => digs_ge (by omega)⟩
  refine .inr ⟨rfl, by simp, fun h0 => ?_, fun h0 => ?_⟩
  · rcases h with ⟨h1, h2, h3⟩ | ⟨h1, h2, h3, h4⟩
    · subst h2 h3; rw [key.1 h0]
    · rcases hgo with hg | hg
      · rw [h1] at hg; cases hg
      · rw [h4 hg, key.1 h0]; simp
  · rcases h with ⟨h1, h2, h3⟩ | ⟨h1, h2, h3, h4⟩
    · subst h2 h3; rw [key.2 h0]
    · rcases hgo with hg | hg
      · rw [h1] at hg; cases hg
      · rw [h4 hg, key.2 h0]; simp
theorem NumAt.short {N r p : Nat} {first : Bool} {D : List UInt8} (h : NumAt N r first D) (hp : p + D.length = 20) (hf : first = false) : p < 20 := by
  rcases h with ⟨h1, h2, h3⟩ | ⟨h1, h2, h3, h4⟩
  · rw [hf] at h1; cases h1
  · have : D.length ≠ 0 := fun e => h2 (List.eq_nil_of_length_eq_zero e)
    omega
theorem NumAt.done {N r : Nat} {first : Bool} {D : List UInt8} (h : NumAt N r first D) (hf : first = false) (hr : r = 0) : digs N = D := by
  rcases h with ⟨h1, h2, h3⟩ | ⟨h1, h2, h3, h4⟩
  · rw [hf] at h1; cases h1
  · exact h3 hr
theorem NumAt.start (N : Nat) : NumAt N N true [] := .inl ⟨rfl, rfl, rfl⟩
end Go.Proofs.Ytdgjcdhomfhfpaa
