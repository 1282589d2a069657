/- What Unquote of package text computes, and what the document's does. Condition: a text of at most a million bytes. -/
import Derived.Test.YtknonjphjedmnaaDoorTb
namespace Go.Proofs.YtknonjphjedmnaaDoor
open Go.RowKit Go.IntWalk
set_option linter.unusedSimpArgs false
set_option linter.unusedVariables false

def optT (o : Option (List UInt8)) : List UInt8 := o.getD []
abbrev oD (o : Option (List UInt8)) : DV := .tup [sD (optT o), bD o.isSome]
theorem drop_at (l : List UInt8) (i : Nat) (h : i < l.length) : l.drop i = l.getD i 0 :: l.drop (i + 1) := by
  rw [List.drop_eq_getElem_cons h]
  congr 1
  simp [List.getD_eq_getElem?_getD, h]

theorem map_bc (l : List UInt8) : (bc l).map (fun el => UInt8.ofNat (el.getD 0 default).int.toNat) = l := by
  have := bs_bc l
  rwa [bs_inj] at this
/-- what stands between quotes -/
def insideL (l : List UInt8) : Option (List UInt8) := if 2 ≤ l.length ∧ l.getD 0 0 = 39 ∧ l.getD (l.length - 1) 0 = 39 then some ((l.take (l.length - 1)).drop 1) else none
theorem c_inside (l : List UInt8) (hs : Sm l) : FnC Tryd.prog 36 [sD l] (oD (insideL l)) := by
  unfold Sm at hs
  refine w36 (bs l) ?_
  simp only [bs_size, mk_bs, bs_extract, bs_inj]
  refine ⟨fun h => by omega, fun h => ?_, fun h => ?_, fun h => ?_⟩
  · have : ¬ (l.length : Int) < 2 := fun e => h (.inl e)
    rw [i64_in _ (by omega)]; omega
  · have : insideL l = none := by
      unfold insideL
      rw [if_neg]
      rintro ⟨h1, h2, h3⟩
      rcases h with (h | h) | h
      · omega
      · apply h
        rw [show (1 : Int).toNat = 0 + 1 by rfl, show (0 : Int).toNat = 0 by rfl, cut_one l 0 (by omega), h2]
      · apply h
        rw [i64_in _ (by omega), Int.toNat_natCast, List.take_length, show ((l.length : Int) - 1).toNat = l.length - 1 by omega, drop_at l _ (by omega), h3, List.drop_of_length_le (by omega)]
    rw [this]
    rfl
  · have h1 : ¬ (l.length : Int) < 2 := fun e => h (.inl (.inl e))
    have h2 := Classical.byContradiction fun e => h (.inl (.inr e))
    have h3 := Classical.byContradiction fun e => h (.inr e)
    rw [show (1 : Int).toNat = 0 + 1 by rfl, show (0 : Int).toNat = 0 by rfl, cut_one l 0 (by omega)] at h2
    rw [i64_in _ (by omega), Int.toNat_natCast, List.take_length, show ((l.length : Int) - 1).toNat = l.length - 1 by omega, drop_at l _ (by omega)] at h3
    simp only [List.cons.injEq] at h2 h3
    have : insideL l = some ((l.take (l.length - 1)).drop 1) := by
      unfold insideL
      rw [if_pos ⟨by omega, h2.1, h3.1⟩]
    rw [this, i64_in _ (by omega), show ((l.length : Int) - 1).toNat = l.length - 1 by omega]
    exact ⟨by omega, rfl⟩

/-- a text of which each quote stands twice -/
def singleL : List UInt8 → Option (List UInt8)
  | [] => some []
  | [c] => if c = 39 then none else some [c]
  | c :: d :: r => if c = 39 then (if d = 39 then (singleL r).map (39 :: ·) else none) else (singleL (d :: r)).map (c :: ·)
theorem single_other (c : UInt8) (r : List UInt8) (h : c ≠ 39) : singleL (c :: r) = (singleL r).map (c :: ·) := by
  cases r with
  | nil => simp [singleL, h]
  | cons d r => rw [singleL, if_neg h]
theorem optT_some (o : List UInt8) : oD (some o) = .tup [sD o, bD true] := rfl
/-- where the loop stands -/
def SinAt (l : List UInt8) (i : Nat) (out : List UInt8) : Prop := singleL l = (singleL (l.drop i)).map (out ++ ·)
theorem SinAt.start (l : List UInt8) : SinAt l 0 [] := by simp [SinAt]
theorem SinAt.other {l : List UInt8} {i : Nat} {out : List UInt8} (h : SinAt l i out) (hi : i < l.length) (hc : l.getD i 0 ≠ 39) : SinAt l (i + 1) (out ++ [l.getD i 0]) := by
  unfold SinAt at h ⊢
  rw [h, drop_at l i hi, single_other _ _ hc]
  cases singleL (l.drop (i + 1)) <;> simp
theorem SinAt.twice {l : List UInt8} {i : Nat} {out : List UInt8} (h : SinAt l i out) (hi : i + 1 < l.length) (hc : l.getD i 0 = 39) (hd : l.getD (i + 1) 0 = 39) : SinAt l (i + 2) (out ++ [39]) := by
  unfold SinAt at h ⊢
  rw [h, drop_at l i (by omega), drop_at l (i + 1) hi, singleL, if_pos hc, if_pos hd]
  cases singleL (l.drop (i + 1 + 1)) <;> simp
theorem SinAt.bad {l : List UInt8} {i : Nat} {out : List UInt8} (h : SinAt l i out) (hi : i < l.length) (hc : l.getD i 0 = 39) (hd : i + 1 = l.length ∨ l.getD (i + 1) 0 ≠ 39) : singleL l = none := by
  unfold SinAt at h
  rw [h, drop_at l i (by omega)]
  by_cases he : i + 1 = l.length
  · rw [List.drop_of_length_le (by omega)]
    rw [hc]
    simp [singleL]
  · rw [drop_at l (i + 1) (by omega), singleL, if_pos hc, if_neg (hd.resolve_left he)]
    rfl
theorem SinAt.done {l : List UInt8} {i : Nat} {out : List UInt8} (h : SinAt l i out) (hi : l.length ≤ i) : singleL l = some out := by
  unfold SinAt at h
  rw [h, List.drop_of_length_le hi]
  simp [singleL]
theorem c39 (c : UInt8) : ((c.toNat : Int) = (byteAt (bs [39]) 0)) ↔ c = 39 := by
  rw [byteAt_bs]
  constructor
  · intro h; exact u8_ext (b := 39) h
  · intro h; rw [h]; rfl
theorem n39 (c : UInt8) : ((c.toNat : Int) = 39) ↔ c = 39 := ⟨fun h => u8_ext (b := 39) h, fun h => by rw [h]; rfl⟩
theorem one_cell (c : UInt8) : ([[CV.v (.int .u8 (c.toNat : Int))]] : List (List CV)) = bc [c] := rfl
theorem c_single (l : List UInt8) (hs : Sm l) : FnC Tryd.prog 37 [sD l] (oD (singleL l)) := by
  unfold Sm at hs
  refine w37 (bs l) ?_
  simp only [bs_size, mk_bs]
  refine ⟨by omega, by omega, fun x1 hx1 => ?_⟩
  have e0 : x1 = bc [] := by rw [hx1]; rfl
  subst e0
  refine ⟨fun rows i k => 0 ≤ i ∧ i ≤ l.length ∧ (∃ out, rows = bc out ∧ out.length ≤ i.toNat ∧ SinAt l i.toNat out) ∧ k = l.length - i.toNat, ⟨_, by omega, by omega, ⟨[], rfl, by simp, SinAt.start l⟩, rfl⟩, ?_⟩
  rintro k rows i ⟨h0, h1, ⟨out, rfl, ho, hS⟩, rfl⟩
  refine ⟨fun hi => ⟨by omega, by omega, fun hc => ?_, fun hc => ?_⟩, fun hi => ?_⟩
  · rw [byteAt_bs, c39] at hc
    have e1 : IntKind.wrap .i64 (i + 1) = i + 1 := i64_in _ (by omega)
    rw [e1, byteAt_bs, nat_i i h0, c39]
    refine ⟨fun h => by omega, fun h => by omega, fun hb => ?_, fun hb => ?_⟩
    · rw [hS.bad (by omega) hc (hb.imp (fun h => by omega) id)]
      rfl
    · have hb1 : ¬ i + 1 = l.length := fun e => hb (.inl e)
      have hb2 := Classical.byContradiction fun e => hb (.inr e)
      refine ⟨by omega, fun x4 hx4 => ?_⟩
      rw [one_cell] at hx4
      subst hx4
      rw [bc_len, bc_len]
      refine ⟨by simp; omega, fun x5 hx5 => ?_⟩
      rw [bc_app] at hx5
      subst hx5
      rw [i64_in _ (by omega)]
      have e2 : (i + 1 + 1).toNat = i.toNat + 2 := by omega
      refine ⟨_, ?_, by omega, by omega, ⟨_, rfl, by simp; omega, ?_⟩, rfl⟩
      · omega
      · rw [e2, hb2]
        exact hS.twice (by omega) hc hb2
  · rw [byteAt_bs, c39] at hc
    refine ⟨by omega, fun x4 hx4 => ?_⟩
    rw [byteAt_bs, one_cell] at hx4
    subst hx4
    rw [bc_len, bc_len]
    refine ⟨by simp; omega, fun x5 hx5 => ?_⟩
    rw [bc_app] at hx5
    subst hx5
    rw [i64_in _ (by omega)]
    refine ⟨_, ?_, by omega, by omega, ⟨_, rfl, by simp; omega, ?_⟩, rfl⟩
    · omega
    · rw [nat_i i h0]
      exact hS.other (by omega) hc
  · rw [hS.done (by omega), bs_bc]
    exact ⟨bc_all _, rfl⟩
theorem c_r3bare (l : List UInt8) (hs : Sm l) : FnC Tryd.prog 40 [sD l] (oD ((insideL l).bind singleL)) := by
  unfold Sm at hs
  refine w40 (bs l) ?_
  simp only [bs_size, mk_bs, bs_extract, byteAt_bs, n39, bs_append]
  refine ⟨fun h => by omega, fun h => ?_, fun h => ?_, fun h => ?_⟩
  · have : ¬ (l.length : Int) < 2 := fun e => h (.inl e)
    rw [i64_in _ (by omega)]; omega
  · have : insideL l = none := by
      unfold insideL
      rw [if_neg]
      rintro ⟨h1, h2, h3⟩
      rcases h with (h | h) | h
      · omega
      · exact h h2
      · apply h
        rw [i64_in _ (by omega), show ((l.length : Int) - 1).toNat = l.length - 1 by omega, h3]
    rw [this]
    rfl
  have h1 : ¬ (l.length : Int) < 2 := fun e => h (.inl (.inl e))
  have h2 := Classical.byContradiction fun e => h (.inl (.inr e))
  have h3 := Classical.byContradiction fun e => h (.inr e)
  have e1 : IntKind.wrap .i64 ((l.length : Int) - 1) = (l.length : Int) - 1 := i64_in _ (by omega)
  rw [e1, show ((l.length : Int) - 1).toNat = l.length - 1 by omega] at h3
  rw [e1, show ((l.length : Int) - 1).toNat = l.length - 1 by omega, show (1 : Int).toNat = 1 by rfl]
  have : insideL l = some ((l.take (l.length - 1)).drop 1) := by
    unfold insideL
    rw [if_pos ⟨by omega, h2, h3⟩]
  rw [this]
  simp only [Option.bind_some]
  have hml : ((l.take (l.length - 1)).drop 1).length ≤ 1000000 := by simp; omega
  generalize (l.take (l.length - 1)).drop 1 = m at *
  refine ⟨by omega, fun o i k => 0 ≤ i ∧ i ≤ m.length ∧ (∃ out, o = bs out ∧ out.length ≤ i.toNat ∧ SinAt m i.toNat out) ∧ k = m.length - i.toNat, ⟨_, by omega, by omega, ⟨[], rfl, by simp, SinAt.start m⟩, rfl⟩, ?_⟩
  rintro k o i ⟨h0, h1, ⟨out, rfl, ho, hS⟩, rfl⟩
  simp only [bs_append, bs_size]
  refine ⟨fun hi => ⟨by omega, fun hc => ?_, fun hc => ?_⟩, fun hi => ?_⟩
  · have e1 : IntKind.wrap .i64 (i + 1) = i + 1 := i64_in _ (by omega)
    rw [e1, nat_i i h0]
    refine ⟨fun h => by omega, fun hb => ?_, fun hb => ?_⟩
    · rw [hS.bad (by omega) hc (hb.imp (fun h => by omega) id)]
      rfl
    · have hb1 : ¬ i + 1 = m.length := fun e => hb (.inl e)
      have hb2 := Classical.byContradiction fun e => hb (.inr e)
      have e2 : (i + 1 + 1).toNat = i.toNat + 1 + 1 := by omega
      rw [i64_in _ (by omega), e2, cut_one m _ (by omega), hb2]
      refine ⟨by omega, by simp; omega, _, ?_, by omega, by omega, ⟨_, rfl, by simp; omega, ?_⟩, rfl⟩
      · omega
      · exact hS.twice (by omega) hc hb2
  · rw [i64_in _ (by omega), nat_i i h0, cut_one m _ (by omega)]
    refine ⟨by omega, by simp; omega, _, ?_, by omega, by omega, ⟨_, rfl, by simp; omega, ?_⟩, rfl⟩
    · omega
    · exact hS.other (by omega) hc
  · rw [hS.done (by omega)]
    rfl

/-- the number of a digit of sixteen -/
def nibL (c : UInt8) : Option Nat := if 48 ≤ c.toNat ∧ c.toNat ≤ 57 then some (c.toNat - 48) else if 97 ≤ c.toNat ∧ c.toNat ≤ 102 then some (c.toNat - 87) else if 65 ≤ c.toNat ∧ c.toNat ≤ 70 then some (c.toNat - 55) else none
def unhexL : List UInt8 → Option (List UInt8)
  | [] => some []
  | [_] => none
  | a :: b :: r => match nibL a, nibL b with
    | some x, some y => (unhexL r).map (UInt8.ofNat (16 * x + y) :: ·)
    | _, _ => none
theorem nibL_lt {c : UInt8} {n : Nat} (h : nibL c = some n) : n < 16 := by
  unfold nibL at h
  repeat' split at h
  all_goals simp at h
  all_goals omega
theorem unhex_odd : ∀ (k : Nat) (l : List UInt8), l.length ≤ k → l.length % 2 = 1 → unhexL l = none
  | 0, l, h, h1 => by omega
  | k + 1, [], h, h1 => by simp at h1
  | k + 1, [_], h, h1 => rfl
  | k + 1, a :: b :: r, h, h1 => by
    unfold unhexL
    have := unhex_odd k r (by simp at h; omega) (by simp at h1; omega)
    rw [this]
    split <;> simp
def HexAt (l : List UInt8) (i : Nat) (out : List UInt8) : Prop := unhexL l = (unhexL (l.drop i)).map (out ++ ·)
theorem HexAt.start (l : List UInt8) : HexAt l 0 [] := by simp [HexAt]
theorem HexAt.step {l : List UInt8} {i : Nat} {out : List UInt8} (h : HexAt l i out) (hi : i + 1 < l.length) {x y : Nat} (hx : nibL (l.getD i 0) = some x) (hy : nibL (l.getD (i + 1) 0) = some y) : HexAt l (i + 2) (out ++ [UInt8.ofNat (16 * x + y)]) := by
  unfold HexAt at h ⊢
  rw [h, drop_at l i (by omega), drop_at l (i + 1) hi, unhexL, hx, hy]
  cases unhexL (l.drop (i + 1 + 1)) <;> simp
theorem HexAt.bad {l : List UInt8} {i : Nat} {out : List UInt8} (h : HexAt l i out) (hi : i + 1 < l.length) (hb : nibL (l.getD i 0) = none ∨ nibL (l.getD (i + 1) 0) = none) : unhexL l = none := by
  unfold HexAt at h
  rw [h, drop_at l i (by omega), drop_at l (i + 1) hi, unhexL]
  rcases hb with hb | hb
  · rw [hb]; rfl
  · rw [hb]; cases nibL (l.getD i 0) <;> rfl
theorem HexAt.done {l : List UInt8} {i : Nat} {out : List UInt8} (h : HexAt l i out) (hi : l.length ≤ i) : unhexL l = some out := by
  unfold HexAt at h
  rw [h, List.drop_of_length_le hi]
  simp [unhexL]
theorem c_nibble (c : UInt8) : FnC Tryd.prog 47 [.c (.v (.int .u8 (c.toNat : Int)))] (.tup [.c (.v (.int .u8 (((nibL c).getD 0 : Nat) : Int))), bD (nibL c).isSome]) := by
  refine w47 (c.toNat : Int) ?_
  unfold nibL
  refine ⟨fun h => ?_, fun h => ⟨fun h1 => ?_, fun h1 => ⟨fun h2 => ?_, fun h2 => ?_⟩⟩⟩
  · rw [if_pos (by omega), u8_in _ (by omega)]
    simp only [Option.getD_some, Option.isSome_some]
    congr 5
    omega
  · have e := u8_in ((c.toNat : Int) - 97) (by omega)
    rw [if_neg (by omega), if_pos (by omega), e, u8_in _ (by omega)]
    simp only [Option.getD_some, Option.isSome_some]
    congr 5
    omega
  · have e := u8_in ((c.toNat : Int) - 65) (by omega)
    rw [if_neg (by omega), if_neg (by omega), if_pos (by omega), e, u8_in _ (by omega)]
    simp only [Option.getD_some, Option.isSome_some]
    congr 5
    omega
  · rw [if_neg (by omega), if_neg (by omega), if_neg (by omega)]
    rfl
theorem or16 (x y : Nat) (hx : x < 16) (hy : y < 16) : IntKind.wrap .u8 (((BitVec.ofInt (IntKind.bits .u8) (IntKind.wrap .u8 ((x : Int) * 2 ^ 4)) ||| BitVec.ofInt (IntKind.bits .u8) (y : Int)).toNat : Nat) : Int) = ((UInt8.ofNat (16 * x + y)).toNat : Int) := by
  have h : ∀ n m : Fin 16, IntKind.wrap .u8 (((BitVec.ofInt (IntKind.bits .u8) (IntKind.wrap .u8 ((n.val : Int) * 2 ^ 4)) ||| BitVec.ofInt (IntKind.bits .u8) (m.val : Int)).toNat : Nat) : Int) = ((UInt8.ofNat (16 * n.val + m.val)).toNat : Int) := by decide +kernel
  exact h ⟨x, hx⟩ ⟨y, hy⟩
theorem c_unhex (l : List UInt8) (hs : Sm l) : FnC Tryd.prog 39 [sD l] (oD (unhexL l)) := by
  unfold Sm at hs
  refine w39 (bs l) ?_
  simp only [bs_size, mk_bs, byteAt_bs]
  have em : Int.tmod (l.length : Int) 2 = ((l.length % 2 : Nat) : Int) := by rw [Int.tmod_eq_emod_of_nonneg (by omega)]; omega
  rw [em]
  refine ⟨by omega, fun h => ?_, fun h => ⟨by omega, ?_⟩⟩
  · rw [unhex_odd _ l (Nat.le_refl _) (by omega)]
    rfl
  have hev : l.length % 2 = 0 := by omega
  rw [i64_quo _ _ (by omega)]
  refine ⟨by omega, by omega, fun x1 hx1 => ?_⟩
  have e0 : x1 = bc [] := by rw [hx1]; rfl
  subst e0
  refine ⟨fun rows i k => 0 ≤ i ∧ i ≤ l.length ∧ i.toNat % 2 = 0 ∧ (∃ out, rows = bc out ∧ out.length ≤ i.toNat ∧ HexAt l i.toNat out) ∧ k = l.length - i.toNat, ⟨_, by omega, by omega, by simp, ⟨[], rfl, by simp, HexAt.start l⟩, rfl⟩, ?_⟩
  rintro k rows i ⟨h0, h1, h2, ⟨out, rfl, ho, hS⟩, rfl⟩
  refine ⟨fun hi => ⟨by omega, _, _, c_nibble _, ?_⟩, fun hi => ?_⟩
  · have e1 : IntKind.wrap .i64 (i + 1) = i + 1 := i64_in _ (by omega)
    rw [e1, nat_i i h0]
    refine ⟨by omega, _, _, c_nibble _, fun hb => ?_, fun hb => ?_⟩
    · have : nibL (l.getD i.toNat 0) = none ∨ nibL (l.getD (i.toNat + 1) 0) = none := by
        rcases hb with hb | hb
        · left; cases hh : nibL (l.getD i.toNat 0)
          · rfl
          · rw [hh] at hb; simp at hb
        · right; cases hh : nibL (l.getD (i.toNat + 1) 0)
          · rfl
          · rw [hh] at hb; simp at hb
      rw [hS.bad (by omega) this]
      rfl
    · obtain ⟨x, hx⟩ : ∃ x, nibL (l.getD i.toNat 0) = some x := by
        cases hh : nibL (l.getD i.toNat 0)
        · exact absurd (.inl (by rw [hh]; simp)) hb
        · exact ⟨_, rfl⟩
      obtain ⟨y, hy⟩ : ∃ y, nibL (l.getD (i.toNat + 1) 0) = some y := by
        cases hh : nibL (l.getD (i.toNat + 1) 0)
        · exact absurd (.inr (by rw [hh]; simp)) hb
        · exact ⟨_, rfl⟩
      intro x8 hx8
      rw [hx, hy] at hx8
      simp only [Option.getD_some] at hx8
      rw [or16 x y (nibL_lt hx) (nibL_lt hy), one_cell] at hx8
      subst hx8
      rw [bc_len, bc_len]
      refine ⟨by simp; omega, fun x9 hx9 => ?_⟩
      rw [bc_app] at hx9
      subst hx9
      have e2 : (i + 2).toNat = i.toNat + 2 := by omega
      rw [i64_in _ (by omega)]
      refine ⟨_, ?_, by omega, by omega, by omega, ⟨_, rfl, by simp; omega, ?_⟩, rfl⟩
      · omega
      · rw [e2]
        exact hS.step (by omega) hx hy
  · rw [hS.done (by omega), bs_bc]
    exact ⟨bc_all _, rfl⟩
theorem c_r3digit (c : UInt8) : FnC Tryd.prog 48 [.c (.v (.int .u8 (c.toNat : Int)))] (iD (match nibL (low c) with | some n => if low c = c then (n : Int) else -1 | none => -1)) := by
  refine w48 (c.toNat : Int) ?_
  simp only [mk_bs, byteAt_bs]
  have key : ∀ c : Fin 256, ∀ j : Fin 16, ((([48, 49, 50, 51, 52, 53, 54, 55, 56, 57, 97, 98, 99, 100, 101, 102] : List UInt8).getD j.val 0).toNat : Int) = (c.val : Int) → (match nibL (low (UInt8.ofNat c.val)) with | some n => if low (UInt8.ofNat c.val) = UInt8.ofNat c.val then (n : Int) else -1 | none => -1) = (j.val : Int) := by decide +kernel
  have key2 : ∀ c : Fin 256, (∀ j : Fin 16, ((([48, 49, 50, 51, 52, 53, 54, 55, 56, 57, 97, 98, 99, 100, 101, 102] : List UInt8).getD j.val 0).toNat : Int) ≠ (c.val : Int)) → (match nibL (low (UInt8.ofNat c.val)) with | some n => if low (UInt8.ofNat c.val) = UInt8.ofNat c.val then (n : Int) else -1 | none => -1) = -1 := by decide +kernel
  have hc : UInt8.ofNat c.toNat = c := by simp
  refine ⟨fun i k => 0 ≤ i ∧ i ≤ 16 ∧ (∀ j : Nat, j < i.toNat → ((([48, 49, 50, 51, 52, 53, 54, 55, 56, 57, 97, 98, 99, 100, 101, 102] : List UInt8).getD j 0).toNat : Int) ≠ (c.toNat : Int)) ∧ k = 16 - i.toNat, ⟨_, by omega, by omega, fun j hj => by simp at hj, rfl⟩, ?_⟩
  rintro k i ⟨h0, h1, h2, rfl⟩
  refine ⟨fun hi => ⟨by omega, fun hb => ?_, fun hb => ?_⟩, fun hi => ?_⟩
  · have := key ⟨c.toNat, c.toNat_lt⟩ ⟨i.toNat, by omega⟩ hb
    rw [hc] at this
    rw [this]
    simp only
    rw [Int.toNat_of_nonneg h0]
  · rw [i64_in _ (by omega)]
    refine ⟨_, ?_, by omega, by omega, fun j hj => ?_, rfl⟩
    · omega
    · rw [nat_i i h0] at hj
      by_cases e : j = i.toNat
      · rw [e]; exact hb
      · exact h2 j (by omega)
  · have := key2 ⟨c.toNat, c.toNat_lt⟩ fun j => h2 j.val (by omega)
    rw [hc] at this
    rw [this]
theorem nib_low (c : UInt8) : nibL (low c) = nibL c := by
  have h : ∀ n : Fin 256, nibL (low (UInt8.ofNat n.val)) = nibL (UInt8.ofNat n.val) := by decide +kernel
  have hc : UInt8.ofNat c.toNat = c := by simp
  have := h ⟨c.toNat, c.toNat_lt⟩
  rwa [hc] at this
theorem low_low (c : UInt8) : low (low c) = low c := by
  have h : ∀ n : Fin 256, low (low (UInt8.ofNat n.val)) = low (UInt8.ofNat n.val) := by decide +kernel
  have hc : UInt8.ofNat c.toNat = c := by simp
  have := h ⟨c.toNat, c.toNat_lt⟩
  rwa [hc] at this
theorem c_r3unhex (l : List UInt8) (hs : Sm l) (hlow : ∀ j, j < l.length → low (l.getD j 0) = l.getD j 0) : FnC Tryd.prog 41 [sD l] (oD (unhexL l)) := by
  unfold Sm at hs
  refine w41 (bs l) ?_
  simp only [bs_size, mk_bs, byteAt_bs]
  have em : Int.tmod (l.length : Int) 2 = ((l.length % 2 : Nat) : Int) := by rw [Int.tmod_eq_emod_of_nonneg (by omega)]; omega
  rw [em]
  refine ⟨by omega, fun h => ?_, fun h => ?_⟩
  · rw [unhex_odd _ l (Nat.le_refl _) (by omega)]
    rfl
  have hev : l.length % 2 = 0 := by omega
  have dig : ∀ j, j < l.length → FnC Tryd.prog 48 [.c (.v (.int .u8 ((l.getD j 0).toNat : Int)))] (iD (match nibL (l.getD j 0) with | some n => (n : Int) | none => -1)) := fun j hj => by
    have := c_r3digit (l.getD j 0)
    rw [hlow j hj] at this
    simpa using this
  refine ⟨fun o i k => 0 ≤ i ∧ i ≤ l.length ∧ i.toNat % 2 = 0 ∧ (∃ out, o = bs out ∧ out.length ≤ i.toNat ∧ HexAt l i.toNat out) ∧ k = l.length - i.toNat, ⟨_, by omega, by omega, by simp, ⟨[], rfl, by simp, HexAt.start l⟩, rfl⟩, ?_⟩
  rintro k o i ⟨h0, h1, h2, ⟨out, rfl, ho, hS⟩, rfl⟩
  refine ⟨fun hi => ⟨by omega, _, dig _ (by omega), ?_⟩, fun hi => ?_⟩
  · have e1 : IntKind.wrap .i64 (i + 1) = i + 1 := i64_in _ (by omega)
    rw [e1, nat_i i h0]
    refine ⟨by omega, _, dig _ (by omega), fun hb => ?_, fun hb => ?_⟩
    · have : nibL (l.getD i.toNat 0) = none ∨ nibL (l.getD (i.toNat + 1) 0) = none := by
        rcases hb with hb | hb
        · left; cases hh : nibL (l.getD i.toNat 0)
          · rfl
          · rw [hh] at hb; simp at hb; omega
        · right; cases hh : nibL (l.getD (i.toNat + 1) 0)
          · rfl
          · rw [hh] at hb; simp at hb; omega
      rw [hS.bad (by omega) this]
      rfl
    · obtain ⟨x, hx⟩ : ∃ x, nibL (l.getD i.toNat 0) = some x := by
        cases hh : nibL (l.getD i.toNat 0)
        · exact absurd (.inl (by rw [hh]; simp)) hb
        · exact ⟨_, rfl⟩
      obtain ⟨y, hy⟩ : ∃ y, nibL (l.getD (i.toNat + 1) 0) = some y := by
        cases hh : nibL (l.getD (i.toNat + 1) 0)
        · exact absurd (.inr (by rw [hh]; simp)) hb
        · exact ⟨_, rfl⟩
      have lx := nibL_lt hx
      have ly := nibL_lt hy
      intro x8 hx8
      rw [hx, hy] at hx8
      simp only at hx8
      have e : IntKind.wrap .u8 (IntKind.wrap .i64 (IntKind.wrap .i64 (16 * (x : Int)) + (y : Int))) = ((UInt8.ofNat (16 * x + y)).toNat : Int) := by
        rw [i64_in (16 * (x : Int)) (by omega), i64_in _ (by omega), u8_in _ (by omega), UInt8.toNat_ofNat']
        omega
      rw [e, one_cell] at hx8
      subst hx8
      have e2 : (i + 2).toNat = i.toNat + 2 := by omega
      rw [map_bc, bs_size, bs_append, i64_in _ (by omega)]
      refine ⟨bc_all _, by simp; omega, _, ?_, by omega, by omega, by omega, ⟨_, rfl, by simp; omega, ?_⟩, rfl⟩
      · omega
      · rw [e2]
        exact hS.step (by omega) hx hy
  · rw [hS.done (by omega)]
    rfl

def madeV (kind : Int) (o : Option (List UInt8)) : V3 × Int := match o with
  | none => (nul, 8)
  | some s => if 4096 < s.length then (nul, 3) else ((kind, 0, s), 0)
theorem c_made (kind : Int) (o : Option (List UInt8)) (s : List UInt8) (b : Bool) (h1 : b = o.isSome) (h2 : ∀ t, o = some t → s = t) : FnC Tryd.prog 38 [iD kind, sD s, bD b] (.tup [vD (madeV kind o).1, iD (madeV kind o).2]) := by
  refine w38 kind (bs s) b ?_
  subst h1
  cases o with
  | none => exact ⟨fun _ => rfl, fun h => absurd (by simp) h⟩
  | some t =>
    rw [h2 t rfl, bs_size]
    refine ⟨fun h => absurd h (by simp), fun _ => ⟨fun h => ?_, fun h => ?_⟩⟩
    · simp only [madeV]; rw [if_pos (by omega)]; rfl
    · simp only [madeV]; rw [if_neg (by omega)]
theorem insideL_sm {l m : List UInt8} (hs : Sm l) (h : insideL l = some m) : Sm m := by
  unfold insideL at h
  split at h
  · simp only [Option.some.injEq] at h
    subst h
    unfold Sm at *
    simp
    omega
  · simp at h
/-- the value of a text, or why there is none -/
def unquoteL (l : List UInt8) : V3 × Int :=
  if foldL l = [110, 117, 108, 108] then (nul, 0)
  else match insideL l with
    | some m => madeV 2 (singleL m)
    | none => if l ≠ [] ∧ low (l.getD 0 0) = 120 then madeV 3 ((insideL (l.drop 1)).bind unhexL)
      else if (readL l).2 ≠ 0 then (nul, (readL l).2) else ((1, (readL l).1, []), 0)
theorem foldL_one (c : UInt8) : foldL [c] = [low c] := rfl
theorem c_tUnquote (l : List UInt8) (hs : Sm l) : FnC Tryd.prog 23 [sD l] (.tup [vD (unquoteL l).1, iD (unquoteL l).2]) := by
  refine w23 (bs l) ?_
  refine ⟨_, c_tFold l hs.sz, ?_⟩
  simp only [mk_bs, bs_inj, bs_size, bs_extract]
  refine ⟨fun h => by simp [unquoteL, h], fun h => ?_⟩
  refine ⟨_, _, c_inside l hs, ?_⟩
  cases hi : insideL l with
  | some m =>
    have hm := insideL_sm hs hi
    have hu : unquoteL l = madeV 2 (singleL m) := by simp [unquoteL, h, hi]
    rw [hu]
    refine ⟨fun _ => ⟨_, _, c_single m hm, _, _, _, _, c_made 2 (singleL m) _ _ rfl (fun t ht => by rw [ht]; rfl), rfl⟩, fun h => absurd rfl h⟩
  | none =>
    have hu : unquoteL l = if l ≠ [] ∧ low (l.getD 0 0) = 120 then madeV 3 ((insideL (l.drop 1)).bind unhexL) else if (readL l).2 ≠ 0 then (nul, (readL l).2) else ((1, (readL l).1, []), 0) := by simp [unquoteL, h, hi]
    rw [hu]
    refine ⟨fun h => absurd h (by simp), fun _ => ⟨fun hne => ?_, ?_⟩⟩
    · have := List.length_pos_iff.2 hne; omega
    have hcut : l ≠ [] → (l.take (1 : Int).toNat).drop (0 : Int).toNat = [l.getD 0 0] := fun hne => cut_one l 0 (List.length_pos_iff.2 hne)
    refine ⟨bs (foldL ((l.take (1 : Int).toNat).drop (0 : Int).toNat)), fun hne => c_tFold _ (by rw [hcut hne]; unfold Sz; simp), fun hc => ?_, fun hc => ?_⟩
    · obtain ⟨hne, hc⟩ := hc
      rw [hcut hne, foldL_one, bs_inj] at hc
      have hlow : low (l.getD 0 0) = 120 := by simpa using hc
      rw [if_pos ⟨hne, hlow⟩]
      have hpos := List.length_pos_iff.2 hne
      have e : (l.take ((l.length : Nat) : Int).toNat).drop (1 : Int).toNat = l.drop 1 := by
        rw [Int.toNat_natCast, List.take_length]; rfl
      rw [e]
      have hs1 : Sm (l.drop 1) := by unfold Sm at *; simp; omega
      refine ⟨by omega, _, _, c_inside _ hs1, ?_⟩
      cases hj : insideL (l.drop 1) with
      | none => exact ⟨_, _, c_unhex [] (by unfold Sm; simp), _, _, _, _, c_made 3 none [] _ rfl (fun t ht => by simp at ht), rfl⟩
      | some m =>
        exact ⟨_, _, c_unhex m (insideL_sm hs1 hj), _, _, _, _, c_made 3 (unhexL m) _ _ (by simp) (fun t ht => by rw [ht]; rfl), rfl⟩
    · have hn : ¬ (l ≠ [] ∧ low (l.getD 0 0) = 120) := fun ⟨hne, hl⟩ => hc ⟨hne, by rw [hcut hne, foldL_one, hl]⟩
      rw [if_neg hn]
      refine ⟨_, _, c_tRead l hs.sz, fun h => ?_, fun h => ?_⟩
      · rw [if_pos h]
      · rw [if_neg h]
theorem read_bad (l : List UInt8) (h : ∀ c, l.head? = some c → c = 39 ∨ c = 120 ∨ c = 88) (hne : l ≠ []) : readL l = (0, 8) := by
  cases l with
  | nil => exact absurd rfl hne
  | cons c l =>
    have hc := h c rfl
    unfold readL
    have h1 : ¬ c = 45 := by rintro rfl; rcases hc with h | h | h <;> cases h
    have h2 : digitsL (c :: l) = false := by
      have : isDig c = false := by rcases hc with rfl | rfl | rfl <;> decide
      simp [digitsL, this]
    simp [h1, h2]
theorem getD_fold (l : List UInt8) (j : Nat) : (foldL l).getD j 0 = low (l.getD j 0) := by
  by_cases h : j < l.length
  · simp [foldL, List.getD_eq_getElem?_getD, h]
  · simp [foldL, List.getD_eq_getElem?_getD, List.getElem?_eq_none (Nat.le_of_not_lt h)]
    rfl
theorem low39 (c : UInt8) : low c = 39 ↔ c = 39 := by
  have h : ∀ n : Fin 256, low (UInt8.ofNat n.val) = 39 ↔ UInt8.ofNat n.val = 39 := by decide +kernel
  have hc : UInt8.ofNat c.toNat = c := by simp
  have := h ⟨c.toNat, c.toNat_lt⟩
  rwa [hc] at this
theorem low120 (c : UInt8) : low c = 120 ↔ c = 120 ∨ c = 88 := by
  have h : ∀ n : Fin 256, low (UInt8.ofNat n.val) = 120 ↔ UInt8.ofNat n.val = 120 ∨ UInt8.ofNat n.val = 88 := by decide +kernel
  have hc : UInt8.ofNat c.toNat = c := by simp
  have := h ⟨c.toNat, c.toNat_lt⟩
  rwa [hc] at this
theorem unhex_fold : ∀ (k : Nat) (l : List UInt8), l.length ≤ k → unhexL (foldL l) = unhexL l
  | 0, l, h => by
    have : l = [] := List.eq_nil_of_length_eq_zero (by omega)
    subst this; rfl
  | k + 1, [], h => rfl
  | k + 1, [_], h => rfl
  | k + 1, a :: b :: r, h => by
    show unhexL (low a :: low b :: foldL r) = _
    rw [unhexL, unhexL, nib_low, nib_low, unhex_fold k r (by simp at h; omega)]
theorem n120 (c : UInt8) : ((c.toNat : Int) = 120) ↔ c = 120 := ⟨fun h => u8_ext (b := 120) h, fun h => by rw [h]; rfl⟩
theorem c_r3Unquote (l : List UInt8) (hs : Sm l) : FnC Tryd.prog 24 [sD l] (.tup [vD (unquoteL l).1, iD (unquoteL l).2]) := by
  have hs' := hs
  unfold Sm at hs'
  refine w24 (bs l) ?_
  refine ⟨_, c_r3Fold l hs, ?_⟩
  simp only [mk_bs, bs_inj, bs_size, bs_extract, byteAt_bs, foldL_len, n39, n120, getD_fold]
  refine ⟨fun h => by simp [unquoteL, h], fun h => ⟨fun h => by omega, fun h1 => ?_, fun h1 => ⟨fun h => by omega, fun h => by omega, fun h => ?_, fun h2 => ?_, fun h2 => ?_⟩⟩⟩
  · obtain ⟨hpos, hq⟩ := h1
    have hne : l ≠ [] := List.length_pos_iff.1 (by omega)
    refine ⟨_, _, c_r3bare l hs, ?_⟩
    have hu : unquoteL l = madeV 2 ((insideL l).bind singleL) := by
      have hlow : ¬ low (l.getD 0 0) = 120 := by
        rw [show l.getD 0 0 = 39 from hq]; decide
      have hr : readL l = (0, 8) := read_bad l (fun c hc => by
        left
        cases l with
        | nil => simp at hc
        | cons a l => simp at hc hq; rw [← hc]; exact hq) hne
      unfold unquoteL
      rw [if_neg h]
      cases hi : insideL l with
      | some m => rfl
      | none =>
        simp only
        rw [if_neg (fun e => hlow e.2), if_pos (by rw [hr]; decide), hr]
        rfl
    rw [hu]
    cases (insideL l).bind singleL with
    | none => exact ⟨fun _ => rfl, fun h => absurd (by simp) h⟩
    | some t =>
      refine ⟨fun h => absurd h (by simp), fun _ => ?_⟩
      simp only [madeV, optT, Option.getD_some, bs_size]
      refine ⟨fun h => by rw [if_pos (by omega)], fun h => by rw [if_neg (by omega)]⟩
  · have e1 : IntKind.wrap .i64 ((l.length : Int) - 1) = (l.length : Int) - 1 := i64_in _ (by omega)
    rw [e1]; omega
  · have e1 : IntKind.wrap .i64 ((l.length : Int) - 1) = (l.length : Int) - 1 := i64_in _ (by omega)
    rw [e1, show ((l.length : Int) - 1).toNat = l.length - 1 by omega] at h2 ⊢
    obtain ⟨⟨⟨hl, hx⟩, hq⟩, hz⟩ := h2
    rw [low39] at hq hz
    have hne : l ≠ [] := List.length_pos_iff.1 (by omega)
    have h39 : ¬ l.getD 0 0 = 39 := fun e => h1 ⟨by omega, e⟩
    have hi : insideL l = none := by
      unfold insideL
      rw [if_neg]
      rintro ⟨_, h, _⟩
      exact h39 h
    have hj : insideL (l.drop 1) = some ((l.take (l.length - 1)).drop 2) := by
      unfold insideL
      rw [if_pos]
      · rw [List.length_drop, List.take_drop, List.drop_drop]
        congr 3
        omega
      · rw [List.length_drop]
        refine ⟨by omega, ?_, ?_⟩
        · rw [← hq]; simp [List.getD_eq_getElem?_getD]
        · rw [← hz]
          simp only [List.getD_eq_getElem?_getD, List.getElem?_drop]
          congr 2
          omega
    have hu : unquoteL l = madeV 3 (unhexL ((l.take (l.length - 1)).drop 2)) := by
      unfold unquoteL
      rw [if_neg h, hi]
      simp only
      rw [if_pos ⟨hne, hx⟩, hj]
      rfl
    rw [hu]
    have em : ((foldL l).take (l.length - 1)).drop (2 : Int).toNat = foldL ((l.take (l.length - 1)).drop 2) := by
      simp [foldL, List.map_take, List.map_drop]
    rw [em]
    have hml : Sm (foldL ((l.take (l.length - 1)).drop 2)) := by unfold Sm; rw [foldL_len]; simp; omega
    refine ⟨by omega, _, _, c_r3unhex _ hml (fun j hj => by rw [getD_fold, low_low]), ?_⟩
    rw [unhex_fold _ _ (Nat.le_refl _)]
    cases unhexL ((l.take (l.length - 1)).drop 2) with
    | none => exact ⟨fun _ => rfl, fun h => absurd (by simp) h⟩
    | some t =>
      refine ⟨fun h => absurd h (by simp), fun _ => ?_⟩
      simp only [madeV, optT, Option.getD_some, bs_size]
      refine ⟨fun h => by rw [if_pos (by omega)], fun h => by rw [if_neg (by omega)]⟩
  · have h39 : l ≠ [] → ¬ l.getD 0 0 = 39 := fun hne e => h1 ⟨by have := List.length_pos_iff.2 hne; omega, e⟩
    have hi : insideL l = none := by
      unfold insideL
      rw [if_neg]
      rintro ⟨hl, h, _⟩
      exact h39 (List.length_pos_iff.1 (by omega)) h
    have hu : unquoteL l = if (readL l).2 ≠ 0 then (nul, (readL l).2) else ((1, (readL l).1, []), 0) := by
      unfold unquoteL
      rw [if_neg h, hi]
      simp only
      by_cases hx : l ≠ [] ∧ low (l.getD 0 0) = 120
      · rw [if_pos hx]
        have hr : readL l = (0, 8) := read_bad l (fun c hc => by
          right
          cases l with
          | nil => simp at hc
          | cons a l =>
            simp at hc
            have := (low120 a).1 hx.2
            rw [← hc]; exact this) hx.1
        have hj : insideL (l.drop 1) = none := by
          unfold insideL
          rw [if_neg]
          rw [List.length_drop]
          rintro ⟨hl, ha, hb⟩
          apply h2
          have e1 : IntKind.wrap .i64 ((l.length : Int) - 1) = (l.length : Int) - 1 := i64_in _ (by omega)
          rw [e1, show ((l.length : Int) - 1).toNat = l.length - 1 by omega, low39, low39]
          refine ⟨⟨⟨by omega, hx.2⟩, ?_⟩, ?_⟩
          · rw [← ha]; simp [List.getD_eq_getElem?_getD]
          · rw [← hb]
            simp only [List.getD_eq_getElem?_getD, List.getElem?_drop]
            congr 2
            omega
        rw [hj, hr]
        rfl
      · rw [if_neg hx]
    rw [hu]
    refine ⟨_, _, c_r3Read l hs.sz, fun h => ?_, fun h => ?_⟩
    · rw [if_pos h]
    · rw [if_neg h]
end Go.Proofs.YtknonjphjedmnaaDoor
