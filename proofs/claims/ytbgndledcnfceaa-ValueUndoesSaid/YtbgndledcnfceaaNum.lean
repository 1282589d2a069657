/- What text.Num and the document's Num compute: a number's digits. No condition but that the number is of 64 bits. -/
import Derived.Test.YtbgndledcnfceaaBytes
import Derived.Outline
namespace Go.Proofs.Ytbgndledcnfceaa
open Go.ChangeShapes Go.WideShapes Go.ChangeAt Go.RowKit

def dig1 (n : Nat) : UInt8 := UInt8.ofNat (48 + n % 10)
def digs (n : Nat) : List UInt8 := if _h : n < 10 then [dig1 n] else digs (n / 10) ++ [dig1 n]
termination_by n
decreasing_by omega
theorem digs_lt {n : Nat} (h : n < 10) : digs n = [dig1 n] := by rw [digs]; simp [h]
theorem digs_ge {n : Nat} (h : ¬ n < 10) : digs n = digs (n / 10) ++ [dig1 n] := by rw [digs]; simp [h]
theorem digs_pos (n : Nat) : 0 < (digs n).length := by
  by_cases h : n < 10
  · rw [digs_lt h]; simp
  · rw [digs_ge h]; simp
theorem digs_len : ∀ (k n : Nat), n < 10 ^ (k + 1) → (digs n).length ≤ k + 1
  | 0, n, h => by rw [digs_lt (by simpa using h)]; simp
  | k + 1, n, h => by
    by_cases h1 : n < 10
    · rw [digs_lt h1]; simp
    · rw [digs_ge h1]
      have := digs_len k (n / 10) (by rw [Nat.pow_succ] at h; omega)
      simp
      omega
theorem digs_len19 (n : Nat) (h : n ≤ 9223372036854775808) : (digs n).length ≤ 19 := digs_len 18 n (by omega)
theorem dig1_toNat (n : Nat) : ((dig1 n).toNat : Int) = 48 + ((n % 10 : Nat) : Int) := by
  unfold dig1
  rw [UInt8.toNat_ofNat']
  omega
/-- the text of a number -/
def numL (n : Int) : List UInt8 := if n < 0 then 45 :: digs n.natAbs else digs n.natAbs

/-- behind some rounds: the digits D are laid, the number r is left -/
def NumAt (N r : Nat) (first : Bool) (D : List UInt8) : Prop :=
  (first = true ∧ D = [] ∧ r = N) ∨ (first = false ∧ D ≠ [] ∧ (r = 0 → digs N = D) ∧ (r ≠ 0 → digs N = digs r ++ D))
theorem NumAt.room {N r : Nat} {first : Bool} {D : List UInt8} (h : NumAt N r first D) (hN : N ≤ 9223372036854775808) (hgo : first = true ∨ r ≠ 0) : D.length ≤ 18 := by
  have hl := digs_len19 N hN
  rcases h with ⟨h1, h2, h3⟩ | ⟨h1, h2, h3, h4⟩
  · simp [h2]
  · have := digs_pos r
    rcases hgo with hg | hg
    · rw [h1] at hg; cases hg
    · rw [h4 hg] at hl
      simp at hl
      omega
theorem NumAt.step {N r : Nat} {first : Bool} {D : List UInt8} (h : NumAt N r first D) (hgo : first = true ∨ r ≠ 0) : NumAt N (r / 10) false (dig1 r :: D) := by
  have key : (r / 10 = 0 → digs r = [dig1 r]) ∧ (r / 10 ≠ 0 → digs r = digs (r / 10) ++ [dig1 r]) :=
    ⟨fun h => digs_lt (by omega), fun h => digs_ge (by omega)⟩
  refine .inr ⟨rfl, by simp, fun h0 => ?_, fun h0 => ?_⟩
  · rcases h with ⟨h1, h2, h3⟩ | ⟨h1, h2, h3, h4⟩
    · subst h2 h3; rw [key.1 h0]
    · rcases hgo with hg | hg
      · rw [h1] at hg; cases hg
      · rw [h4 hg, key.1 h0]; simp
  · rcases h with ⟨h1, h2, h3⟩ | ⟨h1, h2, h3, h4⟩
    · subst h2 h3; rw [key.2 h0]
    · rcases hgo with hg | hg
      · rw [h1] at hg; cases hg
      · rw [h4 hg, key.2 h0]; simp
theorem NumAt.short {N r p : Nat} {first : Bool} {D : List UInt8} (h : NumAt N r first D) (hp : p + D.length = 20) (hf : first = false) : p < 20 := by
  rcases h with ⟨h1, h2, h3⟩ | ⟨h1, h2, h3, h4⟩
  · rw [hf] at h1; cases h1
  · have : D.length ≠ 0 := fun e => h2 (List.eq_nil_of_length_eq_zero e)
    omega
theorem NumAt.done {N r : Nat} {first : Bool} {D : List UInt8} (h : NumAt N r first D) (hf : first = false) (hr : r = 0) : digs N = D := by
  rcases h with ⟨h1, h2, h3⟩ | ⟨h1, h2, h3, h4⟩
  · rw [hf] at h1; cases h1
  · exact h3 hr


set_option maxHeartbeats 1000000 in
theorem tNum_pos (n : Int) (h0 : 0 ≤ n) (h1 : n ≤ 9223372036854775807) (w : World) : Calls Try.prog 51 #[.int .i64 n] w (Ret (.string ⟨(numL n).toArray⟩) w) := by
  obtain ⟨N, rfl⟩ := Int.eq_ofNat_of_zero_le h0
  have hN : N ≤ 9223372036854775808 := by omega
  go_enter Try.func51, Try.ntmps51
  go_wp2_with (first | ((with_reducible refine region_draws ?_); go_quiet (fail)))
  go_loopw [3, 5, 6] (fun r i f wr => ∃ (rest p : Nat) (first : Bool) (D L : List UInt8), r = .int .u64 rest ∧ i = .int .i64 p ∧ f = .bool first ∧ rest ≤ 9223372036854775808 ∧ p + D.length = 20 ∧ 1 ≤ p ∧ NumAt N rest first D ∧ L.length = 20 ∧ L.drop p = D ∧ BytesAt wr w.heap.size L ∧ Below w.heap.size w wr) (fun _ i _ _ => (intOf i).toNat)
  case atStart => exact ⟨N, 20, true, [], List.replicate 20 0, rfl, rfl, rfl, hN, rfl, by omega, .inl ⟨rfl, rfl, rfl⟩, by simp, by simp, bytesAt_zeros _ _ _, (Below.refl _ _).alloc (Nat.le_refl _) _⟩
  case round =>
    obtain ⟨rest, p, first, D, L, rfl, rfl, rfl, hr, hDl, hp1, hat, hL, hD, hB, hbl⟩ := hrel
    have HL := Lib.hid hL
    have HD := Lib.hid hD
    have hp2 : p ≤ 20 := by omega
    have hcell : ∀ j : Nat, j < 20 → (wr.cell? ⟨w.heap.size, j, none⟩).isSome = true := fun j hj => by rw [hB.cell j (by omega)]; rfl
    have hfree : ∀ j : Nat, j < 20 → wr.frozen? ⟨w.heap.size, j, none⟩ = false := fun j hj => hB.free j (by omega)
    have Hcell := Lib.hid hcell
    have Hfree := Lib.hid hfree
    clear hcell hfree hD
    have go : first = true ∨ rest ≠ 0 → 2 ≤ p := fun hgo => by
      have := hat.room hN hgo
      omega
    have Hat := Lib.hid hat
    have HDl := Lib.hid hDl
    have hdlt : (rest : Int) % 10 < 10 := by omega
    clear hat hDl
    cases first
    · by_cases h0r : rest = 0
      · have hrp : rest = 0 := h0r
        subst hrp
        have hp20 : p < 20 := Hat.out.short HDl.out rfl
        have ksl := slice_arr (P := Try.prog) 73 5 20 Try.underlying73 (by kernel_rfl) (by kernel_rfl) (fun _ => by kernel_rfl) w.heap.size p (p : Int) rfl hp20 wr
        have hnum : numL (N : Int) = D := by unfold numL; rw [if_neg (by omega), Int.natAbs_natCast, Hat.out.done rfl h0r]
        have kb := fun (cap : Nat) => bytes_back_from (P := Try.prog) wr 67 9 5 w.heap.size cap (20 - p) p L (by rw [hL]) (by omega) Try.underlying67 Try.underlying5 Try.underlying9 hB
        rw [HD.out] at kb
        have Hnum := Lib.hid hnum
        clear hnum
        go_wp2_with (first | ((with_reducible refine region_draws ?_); go_quiet (fail)))
        go_tidy
        go_ret
        exact ⟨ret_str (by rw [Hnum.out]), hbl⟩

      · have h2 := go (.inr h0r)
        have h0r' : 0 < (rest : Int) := by omega
        obtain ⟨v0, hc⟩ := Option.isSome_iff_exists.1 (Hcell.out (p - 1) (by omega))
        have hf := Hfree.out (p - 1) (by omega)
        clear go
        go_wp2_with (first | ((with_reducible refine region_draws ?_); go_quiet (fail)))
        go_tidy
        refine ⟨⟨rest / 10, p - 1, false, dig1 rest :: D, L.set (p - 1) (dig1 rest), congrArg (Value.int .u64) (by omega), congrArg (Value.int .i64) (by omega), rfl, by omega, by have := HDl.out; simp; omega, by omega, Hat.out.step (.inr h0r), by simp [HL.out], ?_, ?_, hbl.setCell (Nat.le_refl _) _⟩, by simp [intOf]; omega⟩
        · rw [List.drop_eq_getElem_cons (by simp [HL.out]; omega), List.getElem_set_self, List.drop_set_of_lt (by omega), show p - 1 + 1 = p from by omega, HD.out]
        · rw [u8_of_nat (dig1 rest) _ (by rw [dig1_toNat]; omega)]
          exact hB.setCell (p - 1) (by have := HL.out; omega) _
    · have h2 := go (.inl rfl)
      obtain ⟨v0, hc⟩ := Option.isSome_iff_exists.1 (Hcell.out (p - 1) (by omega))
      have hf := Hfree.out (p - 1) (by omega)
      clear go
      go_wp2_with (first | ((with_reducible refine region_draws ?_); go_quiet (fail)))
      go_tidy
      refine ⟨⟨rest / 10, p - 1, false, dig1 rest :: D, L.set (p - 1) (dig1 rest), congrArg (Value.int .u64) (by omega), congrArg (Value.int .i64) (by omega), rfl, by omega, by have := HDl.out; simp; omega, by omega, Hat.out.step (.inl rfl), by simp [HL.out], ?_, ?_, hbl.setCell (Nat.le_refl _) _⟩, by simp [intOf]; omega⟩
      · rw [List.drop_eq_getElem_cons (by simp [HL.out]; omega), List.getElem_set_self, List.drop_set_of_lt (by omega), show p - 1 + 1 = p from by omega, HD.out]
      · rw [u8_of_nat (dig1 rest) _ (by rw [dig1_toNat]; omega)]
        exact hB.setCell (p - 1) (by have := HL.out; omega) _

set_option maxHeartbeats 1000000 in
theorem tNum_neg (n : Int) (h0 : n < 0) (h1 : -9223372036854775808 ≤ n) (w : World) : Calls Try.prog 51 #[.int .i64 n] w (Ret (.string ⟨(numL n).toArray⟩) w) := by
  have hw : IntKind.u64.wrap (-IntKind.u64.wrap n) = ((n.natAbs : Nat) : Int) := by simp [IntKind.wrap, IntKind.bits, IntKind.signed]; omega
  have hN : n.natAbs ≤ 9223372036854775808 := by omega
  go_enter Try.func51, Try.ntmps51
  go_wp2_with (first | ((with_reducible refine region_draws ?_); go_quiet (fail)))
  go_loopw [3, 5, 6] (fun r i f wr => ∃ (rest p : Nat) (first : Bool) (D L : List UInt8), r = .int .u64 rest ∧ i = .int .i64 p ∧ f = .bool first ∧ rest ≤ 9223372036854775808 ∧ p + D.length = 20 ∧ 1 ≤ p ∧ NumAt n.natAbs rest first D ∧ L.length = 20 ∧ L.drop p = D ∧ BytesAt wr w.heap.size L ∧ Below w.heap.size w wr) (fun _ i _ _ => (intOf i).toNat)
  case atStart => exact ⟨n.natAbs, 20, true, [], List.replicate 20 0, rfl, rfl, rfl, hN, rfl, by omega, .inl ⟨rfl, rfl, rfl⟩, by simp, by simp, bytesAt_zeros _ _ _, (Below.refl _ _).alloc (Nat.le_refl _) _⟩
  case round =>
    obtain ⟨rest, p, first, D, L, rfl, rfl, rfl, hr, hDl, hp1, hat, hL, hD, hB, hbl⟩ := hrel
    have HL := Lib.hid hL
    have HD := Lib.hid hD
    have hp2 : p ≤ 20 := by omega
    have hcell : ∀ j : Nat, j < 20 → (wr.cell? ⟨w.heap.size, j, none⟩).isSome = true := fun j hj => by rw [hB.cell j (by omega)]; rfl
    have hfree : ∀ j : Nat, j < 20 → wr.frozen? ⟨w.heap.size, j, none⟩ = false := fun j hj => hB.free j (by omega)
    have Hcell := Lib.hid hcell
    have Hfree := Lib.hid hfree
    clear hcell hfree hD
    have go : first = true ∨ rest ≠ 0 → 2 ≤ p := fun hgo => by
      have := hat.room hN hgo
      omega
    have Hat := Lib.hid hat
    have HDl := Lib.hid hDl
    have hdlt : (rest : Int) % 10 < 10 := by omega
    clear hat hDl
    cases first
    · by_cases h0r : rest = 0
      · have hrp : rest = 0 := h0r
        subst hrp
        have ksl := slice_arr (P := Try.prog) 73 5 20 Try.underlying73 (by kernel_rfl) (by kernel_rfl) (fun _ => by kernel_rfl) w.heap.size (p - 1) ((p : Int) - 1) (by omega) (by omega) (wr.setCell ⟨w.heap.size, p - 1, none⟩ (.int .u8 45))
        have hnum : numL n = 45 :: D := by unfold numL; rw [if_pos h0, Hat.out.done rfl h0r]
        obtain ⟨v0, hc⟩ := Option.isSome_iff_exists.1 (Hcell.out (p - 1) (by omega))
        have hf := Hfree.out (p - 1) (by omega)
        have kb := fun (wx : World) (hx : BytesAt wx w.heap.size (L.set (p - 1) 45)) (cap : Nat) => bytes_back_from (P := Try.prog) wx 67 9 5 w.heap.size cap (20 - (p - 1)) (p - 1) (L.set (p - 1) 45) (by simp [hL]) (by simp [hL]; omega) Try.underlying67 Try.underlying5 Try.underlying9 hx
        have kb1 := kb (wr.setCell ⟨w.heap.size, p - 1, none⟩ (.int .u8 45)) (hB.setCell (p - 1) (by omega) 45)
        have hdr : (L.set (p - 1) 45).drop (p - 1) = 45 :: D := by
          rw [List.drop_eq_getElem_cons (by simp; omega), List.getElem_set_self, List.drop_set_of_lt (by omega), show p - 1 + 1 = p from by omega, HD.out]
        rw [hdr] at kb1
        have Hnum := Lib.hid hnum
        clear hnum hdr kb
        go_wp2_with (first | ((with_reducible refine region_draws ?_); go_quiet (fail)))
        go_tidy
        go_ret
        exact ⟨ret_str (by rw [Hnum.out]), hbl.setCell (Nat.le_refl _) _⟩

      · have h2 := go (.inr h0r)
        have h0r' : 0 < (rest : Int) := by omega
        obtain ⟨v0, hc⟩ := Option.isSome_iff_exists.1 (Hcell.out (p - 1) (by omega))
        have hf := Hfree.out (p - 1) (by omega)
        clear go
        go_wp2_with (first | ((with_reducible refine region_draws ?_); go_quiet (fail)))
        go_tidy
        refine ⟨⟨rest / 10, p - 1, false, dig1 rest :: D, L.set (p - 1) (dig1 rest), congrArg (Value.int .u64) (by omega), congrArg (Value.int .i64) (by omega), rfl, by omega, by have := HDl.out; simp; omega, by omega, Hat.out.step (.inr h0r), by simp [HL.out], ?_, ?_, hbl.setCell (Nat.le_refl _) _⟩, by simp [intOf]; omega⟩
        · rw [List.drop_eq_getElem_cons (by simp [HL.out]; omega), List.getElem_set_self, List.drop_set_of_lt (by omega), show p - 1 + 1 = p from by omega, HD.out]
        · rw [u8_of_nat (dig1 rest) _ (by rw [dig1_toNat]; omega)]
          exact hB.setCell (p - 1) (by have := HL.out; omega) _
    · have h2 := go (.inl rfl)
      obtain ⟨v0, hc⟩ := Option.isSome_iff_exists.1 (Hcell.out (p - 1) (by omega))
      have hf := Hfree.out (p - 1) (by omega)
      clear go
      go_wp2_with (first | ((with_reducible refine region_draws ?_); go_quiet (fail)))
      go_tidy
      refine ⟨⟨rest / 10, p - 1, false, dig1 rest :: D, L.set (p - 1) (dig1 rest), congrArg (Value.int .u64) (by omega), congrArg (Value.int .i64) (by omega), rfl, by omega, by have := HDl.out; simp; omega, by omega, Hat.out.step (.inl rfl), by simp [HL.out], ?_, ?_, hbl.setCell (Nat.le_refl _) _⟩, by simp [intOf]; omega⟩
      · rw [List.drop_eq_getElem_cons (by simp [HL.out]; omega), List.getElem_set_self, List.drop_set_of_lt (by omega), show p - 1 + 1 = p from by omega, HD.out]
      · rw [u8_of_nat (dig1 rest) _ (by rw [dig1_toNat]; omega)]
        exact hB.setCell (p - 1) (by have := HL.out; omega) _
theorem tNum (n : Int) (h : -9223372036854775808 ≤ n ∧ n ≤ 9223372036854775807) (w : World) : Calls Try.prog 51 #[.int .i64 n] w (Ret (.string ⟨(numL n).toArray⟩) w) := by
  by_cases h0 : 0 ≤ n
  · exact tNum_pos n h0 h.2 w
  · exact tNum_neg n (by omega) h.1 w
end Go.Proofs.Ytbgndledcnfceaa
