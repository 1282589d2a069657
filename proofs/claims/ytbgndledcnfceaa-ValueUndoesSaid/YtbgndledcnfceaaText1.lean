/- What text.Fold and the document's Fold compute: a text in small letters. No condition but that the text has less than 2^47 bytes. -/
import Derived.Test.YtbgndledcnfceaaBytes
import Derived.Outline
namespace Go.Proofs.Ytbgndledcnfceaa
open Go.ChangeShapes Go.WideShapes Go.ChangeAt Go.RowKit

def low (c : UInt8) : UInt8 := if 65 ≤ c ∧ c ≤ 90 then c + 32 else c
def foldL (l : List UInt8) : List UInt8 := l.map low
def foldB (s : ByteArray) : ByteArray := ⟨(foldL s.data.toList).toArray⟩
/-- a text of which the first k letters are small -/
def foldK (l : List UInt8) (k : Nat) : List UInt8 := foldL (l.take k) ++ l.drop k
theorem foldK_len (l : List UInt8) (k : Nat) : (foldK l k).length = l.length := by simp [foldK, foldL]; omega
theorem foldK_at (l : List UInt8) (k : Nat) (h : k < l.length) : (foldK l k)[k]'(by rw [foldK_len]; exact h) = l[k] := by
  unfold foldK
  rw [List.getElem_append_right (by simp [foldL]; omega)]
  simp [foldL, Nat.min_eq_left (Nat.le_of_lt h)]
theorem foldK_zero (l : List UInt8) : foldK l 0 = l := by simp [foldK, foldL]
theorem foldK_all (l : List UInt8) : foldK l l.length = foldL l := by simp [foldK]
theorem foldK_step (l : List UInt8) (k : Nat) (h : k < l.length) : (foldK l k).set k (low l[k]) = foldK l (k + 1) := by
  unfold foldK
  rw [List.set_append_right _ _ (by simp [foldL]; omega)]
  have e : k - (foldL (l.take k)).length = 0 := by simp [foldL]; omega
  rw [e, List.drop_eq_getElem_cons h, List.set_cons_zero, List.take_succ_eq_append_getElem h]
  simp [foldL]
  rw [List.take_succ_eq_append_getElem (by simpa using h)]
  simp
theorem foldK_stay (l : List UInt8) (k : Nat) (h : k < l.length) (hc : low l[k] = l[k]) : foldK l k = foldK l (k + 1) := by
  rw [← foldK_step l k h, hc]
  have := foldK_at l k h
  rw [← this, List.set_getElem_self]

theorem tFold (s : ByteArray) (w : World) (hs : s.size ≤ 9223372036854775807) : Calls Try.prog 35 #[.string s] w (Ret (.string (foldB s)) w) := by
  have kc := fun (w : World) => run_bytes_of_string (P := Try.prog) w 9 67 5 s Try.underlying9 Try.underlying67 Try.underlying5
  go_enter Try.func35, Try.ntmps35
  go_wp2_with fail
  go_loopw [10] (fun i wr => ∃ k : Nat, k ≤ s.size ∧ i = .int .i64 k ∧ BytesAt wr w.heap.size (foldK s.data.toList k) ∧ Below w.heap.size w wr) (fun i _ => s.size - (intOf i).toNat)
  case atStart => exact ⟨0, Nat.zero_le _, rfl, by rw [foldK_zero]; exact bytesAt_string _ _ _ _, ((Below.refl _ _).alloc (Nat.le_refl _) _).drew⟩
  case round =>
    obtain ⟨k, hk, rfl, hB, hbl⟩ := hrel
    by_cases hlt : k < s.size
    · have hlk : k < s.data.toList.length := by simpa using hlt
      have hfl : k < (foldK s.data.toList k).length := by rw [foldK_len]; exact hlk
      have hce := hB.cell k hfl
      rw [foldK_at _ _ hlk] at hce
      have hfr := hB.free k hfl
      have Hst := Lib.hid (foldK_step s.data.toList k hlk)
      have Hsy := Lib.hid (foldK_stay s.data.toList k hlk)
      generalize s.data.toList[k] = c at hce Hst Hsy
      have hc0 : (0 : Int) ≤ (c.toNat : Int) := by omega
      have hc1 : (c.toNat : Int) ≤ 255 := by have := c.toNat_lt; omega
      by_cases h1 : 65 ≤ (c.toNat : Int)
      · by_cases h2 : (c.toNat : Int) ≤ 90
        · go_wp2_with (first | ((with_reducible refine region_draws ?_); go_quiet (fail)))
          go_tidy
          refine ⟨⟨k + 1, by omega, by go_num, ?_, hbl.setCell (Nat.le_refl _) _⟩, by simp [intOf]; omega⟩
          rw [← Hst.out, u8_of_nat (low c) _ (by unfold low; rw [if_pos (by simp [UInt8.le_iff_toNat_le]; omega)]; simp; omega)]
          exact hB.setCell k hfl _
        · go_wp2_with (first | ((with_reducible refine region_draws ?_); go_quiet (fail)))
          go_tidy
          go_roundw
          case rel => exact ⟨k + 1, by omega, by go_num, by rw [← Hsy.out (by unfold low; rw [if_neg (by simp [UInt8.le_iff_toNat_le]; omega)])]; exact hB, hbl⟩
          case measure => simp [intOf]; omega
      · go_wp2_with (first | ((with_reducible refine region_draws ?_); go_quiet (fail)))
        go_tidy
        go_roundw
        case rel => exact ⟨k + 1, by omega, by go_num, by rw [← Hsy.out (by unfold low; rw [if_neg (by simp [UInt8.le_iff_toNat_le]; omega)])]; exact hB, hbl⟩
        case measure => simp [intOf]; omega
    · obtain rfl : k = s.data.toList.length := by
        have : s.data.toList.length = s.size := by simp
        omega
      rw [foldK_all] at hB
      have kb := fun cap => bytes_back (P := Try.prog) wr 67 9 5 w.heap.size cap s.size (foldL s.data.toList) (by simp [foldL]) Try.underlying67 Try.underlying5 Try.underlying9 hB
      go_wp2_with (first | ((with_reducible refine region_draws ?_); go_quiet (fail)))
      go_ret
      exact ⟨rfl, hbl⟩
theorem r4fold (s : ByteArray) (w : World) (hs : s.size ≤ 9223372036854775807) : Calls Try.prog 36 #[.string s] w (Ret (.string (foldB s)) w) := by
  have kc := fun (w : World) => run_bytes_of_string (P := Try.prog) w 9 67 5 s Try.underlying9 Try.underlying67 Try.underlying5
  go_enter Try.func36, Try.ntmps36
  go_wp2_with fail
  go_loopw [4] (fun i wr => ∃ k : Nat, k ≤ s.size ∧ i = .int .i64 k ∧ BytesAt wr w.heap.size (foldK s.data.toList k) ∧ Below w.heap.size w wr) (fun i _ => s.size - (intOf i).toNat)
  case atStart => exact ⟨0, Nat.zero_le _, rfl, by rw [foldK_zero]; exact bytesAt_string _ _ _ _, ((Below.refl _ _).alloc (Nat.le_refl _) _).drew⟩
  case round =>
    obtain ⟨k, hk, rfl, hB, hbl⟩ := hrel
    by_cases hlt : k < s.size
    · have hlk : k < s.data.toList.length := by simpa using hlt
      have hfl : k < (foldK s.data.toList k).length := by rw [foldK_len]; exact hlk
      have hce := hB.cell k hfl
      rw [foldK_at _ _ hlk] at hce
      have hfr := hB.free k hfl
      have Hst := Lib.hid (foldK_step s.data.toList k hlk)
      have Hsy := Lib.hid (foldK_stay s.data.toList k hlk)
      generalize s.data.toList[k] = c at hce Hst Hsy
      have hc0 : (0 : Int) ≤ (c.toNat : Int) := by omega
      have hc1 : (c.toNat : Int) ≤ 255 := by have := c.toNat_lt; omega
      by_cases h1 : 65 ≤ (c.toNat : Int)
      · by_cases h2 : (c.toNat : Int) ≤ 90
        · go_wp2_with (first | ((with_reducible refine region_draws ?_); go_quiet (fail)))
          go_tidy
          refine ⟨⟨k + 1, by omega, by go_num, ?_, hbl.setCell (Nat.le_refl _) _⟩, by simp [intOf]; omega⟩
          rw [← Hst.out, u8_of_nat (low c) _ (by unfold low; rw [if_pos (by simp [UInt8.le_iff_toNat_le]; omega)]; simp; omega)]
          exact hB.setCell k hfl _
        · go_wp2_with (first | ((with_reducible refine region_draws ?_); go_quiet (fail)))
          go_tidy
          go_roundw
          case rel => exact ⟨k + 1, by omega, by go_num, by rw [← Hsy.out (by unfold low; rw [if_neg (by simp [UInt8.le_iff_toNat_le]; omega)])]; exact hB, hbl⟩
          case measure => simp [intOf]; omega
      · go_wp2_with (first | ((with_reducible refine region_draws ?_); go_quiet (fail)))
        go_tidy
        go_roundw
        case rel => exact ⟨k + 1, by omega, by go_num, by rw [← Hsy.out (by unfold low; rw [if_neg (by simp [UInt8.le_iff_toNat_le]; omega)])]; exact hB, hbl⟩
        case measure => simp [intOf]; omega
    · obtain rfl : k = s.data.toList.length := by
        have : s.data.toList.length = s.size := by simp
        omega
      rw [foldK_all] at hB
      have kb := fun cap => bytes_back (P := Try.prog) wr 67 9 5 w.heap.size cap s.size (foldL s.data.toList) (by simp [foldL]) Try.underlying67 Try.underlying5 Try.underlying9 hB
      go_wp2_with (first | ((with_reducible refine region_draws ?_); go_quiet (fail)))
      go_ret
      exact ⟨rfl, hbl⟩
end Go.Proofs.Ytbgndledcnfceaa
