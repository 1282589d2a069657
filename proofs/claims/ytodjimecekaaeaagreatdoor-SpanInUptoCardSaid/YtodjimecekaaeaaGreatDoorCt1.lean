/- What text.Num and the document's Num compute: the digits of a number. Condition: a number of 64 bits. -/
import Derived.Test.YtodjimecekaaeaaGreatDoorPl
import Derived.Test.YtodjimecekaaeaaGreatDoorAbW
namespace Go.Proofs.YtodjimecekaaeaaGreatDoor
open Go.RowKit Go.IntWalk
set_option linter.unusedSimpArgs false
set_option linter.unusedVariables false
def rowAt (D : List UInt8) : List UInt8 := List.replicate (20 - D.length) 0 ++ D
theorem rowAt_len (D : List UInt8) (h : D.length ≤ 20) : (rowAt D).length = 20 := by simp [rowAt]; omega
theorem rowAt_set (D : List UInt8) (b : UInt8) (h : D.length ≤ 19) : (rowAt D).set (19 - D.length) b = rowAt (b :: D) := by
 have e : 20 - D.length = (19 - D.length) + 1 := by omega
 unfold rowAt
 rw [e, List.replicate_succ', List.append_assoc, List.set_append_right _ _ (by simp)]
 simp
theorem rowAt_drop (D : List UInt8) (h : D.length ≤ 20) : (rowAt D).drop (20 - D.length) = D := by
 unfold rowAt
 rw [List.drop_append_of_le_length (by simp)]
 simp
def NumI (n : Int) (rows : List (List CV)) (r p : Int) (first : Bool) (k : Nat) : Prop :=
 ∃ (D : List UInt8), NumAt n.natAbs r.toNat first D ∧ 0 ≤ r ∧ r ≤ 9223372036854775808 ∧ p = 20 - (D.length : Int) ∧ D.length ≤ 19 ∧ rows = bc (rowAt D) ∧ k = r.toNat + (if first then 1 else 0)
theorem c_tNum (n : Int) (h : -9223372036854775808 ≤ n ∧ n ≤ 9223372036854775807) : FnC Tryz.prog 149 [.c (.v (.int .i64 n))] (.c (.v (.string (bs (numL n))))) := by
 have hN : n.natAbs ≤ 9223372036854775808 := by omega
 have start : ∀ r : Int, r = n.natAbs → NumI n (bc (rowAt [])) r 20 true (n.natAbs + 1) := fun r hr =>
  ⟨[], by subst hr; exact NumAt.start _, by omega, by omega, by simp, by simp, rfl, by subst hr; simp⟩
 have step : ∀ rows r p first k, NumI n rows r p first k → (first = true ∨ 0 < r) → IntKind.wrap .i64 (p - 1) = p - 1 ∧ 0 ≤ p - 1 ∧ p - 1 < 20 ∧ rows.length = 20 ∧
  ∃ k', k' < k ∧ NumI n (rows.set (p - 1).toNat (overL (rows.getD (p - 1).toNat []) 0 [.v (.int .u8 (IntKind.wrap .u8 (48 + IntKind.wrap .u8 (Int.tmod r 10))))])) (IntKind.wrap .u64 (Int.tdiv r 10)) (p - 1) false k' := by
  rintro rows r p first k ⟨D, hD, h0, h1, hp, hl, rfl, rfl⟩ hgo
  have hgo' : first = true ∨ r.toNat ≠ 0 := hgo.imp id fun h => by omega
  have hroom := hD.room hN hgo'
  have hw : IntKind.wrap .i64 (p - 1) = p - 1 := i64_in _ (by omega)
  refine ⟨hw, by omega, by omega, by rw [bc_len, rowAt_len _ (by omega)], (r.toNat / 10), ?_, dig1 r.toNat :: D, ?_, ?_, ?_, ?_, ?_, ?_, ?_⟩
  · rcases hgo with hf | hf
    · subst hf; simp; omega
    · omega
  · have e : (IntKind.wrap .u64 (Int.tdiv r 10)).toNat = r.toNat / 10 := by rw [u64_quo _ _ (by omega)]; omega
    rw [e]
    exact hD.step hgo'
  · rw [u64_quo _ _ (by omega)]; omega
  · rw [u64_quo _ _ (by omega)]; omega
  · simp; omega
  · simp; omega
  · have e1 : (p - 1).toNat = 19 - D.length := by omega
    have e2 : Int.tmod r 10 = ((r.toNat % 10 : Nat) : Int) := by rw [Int.tmod_eq_emod_of_nonneg h0]; omega
    rw [e1, bc_set (b := dig1 r.toNat), rowAt_set _ _ hl]
    have e3 : IntKind.wrap .u8 ((r.toNat % 10 : Nat) : Int) = ((r.toNat % 10 : Nat) : Int) := u8_in _ (by omega)
    rw [dig1_toNat, e2, e3, u8_in _ (by omega)]
    omega
  · rw [u64_quo _ _ (by omega)]; simp; omega
 have fin : ∀ rows r p first k, NumI n rows r p first k → ¬ (first = true ∨ 0 < r) → ∃ D, digs n.natAbs = D ∧ D.length ≤ 19 ∧ p = 20 - (D.length : Int) ∧ 1 ≤ D.length ∧ rows = bc (rowAt D) := by
  rintro rows r p first k ⟨D, hD, h0, h1, hp, hl, rfl, rfl⟩ hno
  have hf : first = false := by cases first <;> simp_all
  refine ⟨D, hD.done hf (by omega), hl, hp, ?_, rfl⟩
  have := digs_pos n.natAbs
  rw [hD.done hf (by omega)] at this
  omega
 refine w149 n ?_
 constructor
 · intro hneg x1 hx1
   subst hx1
   refine ⟨NumI n, ⟨n.natAbs + 1, start _ ?_⟩, ?_⟩
   · have e : (n.natAbs : Int) = -n := by omega
     have e1 : IntKind.wrap .u64 n = n + 18446744073709551616 := by rw [IntKind.wrap_u64]; omega
     have e2 : IntKind.wrap .u64 (0 - (n + 18446744073709551616)) = -n := by rw [IntKind.wrap_u64]; omega
     rw [e1, e2, e]
   intro k rows r p first hI
   constructor
   · intro hgo
     obtain ⟨h1, h2, h3, h4, k', hk', hI'⟩ := step rows r p first k hI hgo
     rw [h1, h4]
     refine ⟨by omega, by omega, by omega, fun x6 hx6 => ⟨by omega, k', hk', ?_⟩⟩
     subst hx6
     exact hI'
   · intro hno
     obtain ⟨D, hD, hl, hp, hl1, rfl⟩ := fin rows r p first k hI hno
     constructor
     · intro _
       have hw : IntKind.wrap .i64 (p - 1) = p - 1 := i64_in _ (by omega)
       have e1 : (p - 1).toNat = 19 - D.length := by omega
       rw [hw, e1, bc_len, rowAt_len _ (by omega)]
       refine ⟨by omega, by omega, fun x6 hx6 => ?_⟩
       rw [bc_set (b := 45) (hz := by decide), rowAt_set _ _ hl] at hx6
       subst hx6
       have e2 : (20 - (p - 1)).toNat = D.length + 1 := by omega
       have e3 : (rowAt (45 :: D)).drop (19 - D.length) = 45 :: D := by
        have := rowAt_drop (45 :: D) (by simp; omega)
        simpa [Nat.sub_sub, Nat.add_comm] using this
       have e4 : (45 :: D).take (D.length + 1) = 45 :: D := by simp
       rw [bc_len, rowAt_len _ (by simp; omega), bc_drop, bc_take, e2, e3, e4]
       refine ⟨by omega, by omega, by omega, bc_all _, ?_⟩
       rw [bc_str, numL, if_pos hneg, hD]
     · intro h; exact absurd hneg h
 · intro hneg x1 hx1
   subst hx1
   refine ⟨NumI n, ⟨n.natAbs + 1, start _ ?_⟩, ?_⟩
   · rw [u64_in _ (by omega)]; omega
   intro k rows r p first hI
   constructor
   · intro hgo
     obtain ⟨h1, h2, h3, h4, k', hk', hI'⟩ := step rows r p first k hI hgo
     rw [h1, h4]
     refine ⟨by omega, by omega, by omega, fun x6 hx6 => ⟨by omega, k', hk', ?_⟩⟩
     subst hx6
     exact hI'
   · intro hno
     obtain ⟨D, hD, hl, hp, hl1, rfl⟩ := fin rows r p first k hI hno
     refine ⟨fun h => absurd h hneg, fun _ => ?_⟩
     have e1 : p.toNat = 20 - D.length := by omega
     have e2 : (20 - p).toNat = D.length := by omega
     rw [bc_len, rowAt_len _ (by omega), e1, e2, bc_drop, bc_take, rowAt_drop _ (by omega), List.take_length]
     refine ⟨by omega, by omega, by omega, bc_all _, ?_⟩
     rw [bc_str, numL, if_neg hneg, hD]
end Go.Proofs.YtodjimecekaaeaaGreatDoor
