/- Plain facts about digits, quotes, digits of sixteen and lines. No condition. -/
import Derived.Test.YtknonjphjedmnaaDoorTd
namespace Go.Proofs.YtknonjphjedmnaaDoor
open Go.RowKit Go.IntWalk
set_option linter.unusedSimpArgs false
set_option linter.unusedVariables false

theorem isDig_dig1 (n : Nat) : isDig (dig1 n) = true := by
  simp only [isDig, dig1_toNat, Bool.and_eq_true, decide_eq_true_eq]
  omega
theorem digs_all (n : Nat) : (digs n).all isDig = true := by
  induction n using Nat.strongRecOn with
  | _ n ih =>
    by_cases h : n < 10
    · rw [digs_lt h]; simp [isDig_dig1]
    · rw [digs_ge h, List.all_append, ih _ (by omega)]; simp [isDig_dig1]
theorem digs_val (n : Nat) : valL (digs n) = n := by
  induction n using Nat.strongRecOn with
  | _ n ih =>
    by_cases h : n < 10
    · rw [digs_lt h]
      show 10 * 0 + ((dig1 n).toNat - 48) = n
      rw [dig1_toNat]; omega
    · rw [digs_ge h, valL, valG_app, valG_one]
      have := ih (n / 10) (by omega)
      unfold valL at this
      rw [this, dig1_toNat]
      omega
theorem digs_head (n : Nat) (h0 : 0 < n) : (digs n).getD 0 0 ≠ 48 := by
  induction n using Nat.strongRecOn with
  | _ n ih =>
    by_cases h : n < 10
    · rw [digs_lt h]
      intro e
      have : (dig1 n).toNat = 48 := by
        have e : dig1 n = 48 := e
        rw [e]; rfl
      rw [dig1_toNat] at this
      omega
    · rw [digs_ge h]
      have hp := digs_pos (n / 10)
      have := ih (n / 10) (by omega) (by omega)
      rw [List.getD_eq_getElem?_getD, List.getElem?_append_left hp]
      rwa [List.getD_eq_getElem?_getD] at this
theorem digs_ok (n : Nat) : digitsL (digs n) = true := by
  simp only [digitsL, digs_all, Bool.true_and]
  by_cases h : n < 10
  · rw [digs_lt h]; rfl
  · have hp := digs_pos (n / 10)
    have h1 : 1 < (digs n).length := by rw [digs_ge h]; simp; omega
    have h2 := digs_head n (by omega)
    have h3 : ((digs n).getD 0 0 == 48) = false := by rw [beq_eq_false_iff_ne]; exact h2
    simp only [h1, h3, decide_true, Bool.not_false, Bool.and_self, Bool.or_true]
theorem digs_one (n : Nat) (h : digs n = [48]) : n = 0 := by
  have := digs_val n
  rw [h] at this
  exact this.symm
theorem digs_head45 (n : Nat) : (digs n).head? ≠ some 45 := by
  intro h
  have hall := digs_all n
  cases hd : digs n with
  | nil => rw [hd] at h; simp at h
  | cons a l =>
    rw [hd] at h hall
    simp at h
    subst h
    simp at hall
    exact absurd hall.1 (by decide)
theorem readL_neg (d : List UInt8) : readL (45 :: d) = (if digitsL d = true ∧ d ≠ [48] then (if valL d ≤ 9223372036854775808 then (-(valL d : Int), 0) else (0, 9)) else (0, 8)) := by
  unfold readL
  exact if_pos rfl
theorem read_num (n : Int) (h : I64 n) : readL (numL n) = (n, 0) := by
  unfold numL
  by_cases hn : n < 0
  · rw [if_pos hn, readL_neg, if_pos ⟨digs_ok _, fun e => by have := digs_one _ e; omega⟩, digs_val, if_pos (by omega)]
    congr 1
    omega
  · unfold readL
    rw [if_neg hn, if_neg (digs_head45 _), if_pos (digs_ok _), digs_val, if_pos (by omega)]
    congr 1
    omega
theorem dig1_back (c : UInt8) (n : Nat) (h : isDig c = true) : dig1 (10 * n + (c.toNat - 48)) = c := by
  simp only [isDig, Bool.and_eq_true, decide_eq_true_eq] at h
  apply UInt8.toNat_inj.1
  rw [dig1_toNat]
  omega
theorem val_digs : ∀ (k : Nat) (d : List UInt8), d.length ≤ k → digitsL d = true → digs (valL d) = d
  | 0, d, hk, h => by
    have : d = [] := List.eq_nil_of_length_eq_zero (by omega)
    subst this
    simp [digitsL] at h
  | k + 1, d, hk, h => by
    rcases List.eq_nil_or_concat d with rfl | ⟨a, c, rfl⟩
    · simp [digitsL] at h
    have hall := digitsL_all h
    rw [List.concat_eq_append] at *
    rw [List.all_append, Bool.and_eq_true] at hall
    have hc : isDig c = true := by simpa using hall.2
    have hv : valL (a ++ [c]) = 10 * valL a + (c.toNat - 48) := by
      rw [valL, valG_app, valG_one]; rfl
    rw [hv]
    cases ha : a with
    | nil =>
      have : 10 * valL [] + (c.toNat - 48) < 10 := by
        simp only [isDig, Bool.and_eq_true, decide_eq_true_eq] at hc
        show 10 * 0 + (c.toNat - 48) < 10
        omega
      rw [digs_lt this, dig1_back c _ hc]
      rfl
    | cons b r =>
      have hda : digitsL a = true := by
        have h2 : (a ++ [c]).length ≠ 1 := by rw [ha]; simp
        have h3 : ((a ++ [c]).length == 1) = false := by rw [beq_eq_false_iff_ne]; exact h2
        have hb : (a ++ [c]).getD 0 0 = a.getD 0 0 := by rw [ha]; rfl
        simp only [digitsL, h3, Bool.false_or, Bool.and_eq_true, hb] at h
        simp only [digitsL, hall.1, Bool.true_and]
        by_cases h4 : a.length = 1
        · simp [h4]
        · have h0 : a.length ≠ 0 := by rw [ha]; simp
          have : 1 < a.length := by omega
          simp only [this, decide_true, Bool.true_and, h.2.2, Bool.or_true]
      have ih := val_digs k a (by simp at hk; omega) hda
      have hpos : 0 < valL a := by
        cases h0 : valL a with
        | succ m => omega
        | zero =>
          exfalso
          rw [h0, digs_lt (by omega)] at ih
          have : (a ++ [c]).getD 0 0 = 48 := by rw [← ih]; rfl
          have h2 : (a ++ [c]).length ≠ 1 := by rw [ha]; simp
          have h3 : ((a ++ [c]).length == 1) = false := by rw [beq_eq_false_iff_ne]; exact h2
          simp only [digitsL, h3, Bool.false_or, Bool.and_eq_true, this] at h
          exact absurd h.2.2 (by decide)
      rw [← ha, digs_ge (by omega), dig1_back c _ hc]
      have : (10 * valL a + (c.toNat - 48)) / 10 = valL a := by
        simp only [isDig, Bool.and_eq_true, decide_eq_true_eq] at hc
        omega
      rw [this, ih]
theorem num_read (l : List UInt8) (h : (readL l).2 = 0) : numL (readL l).1 = l := by
  unfold readL at h ⊢
  by_cases h45 : l.head? = some 45
  · rw [if_pos h45] at h ⊢
    by_cases hd : digitsL l.tail = true ∧ l.tail ≠ [48]
    · rw [if_pos hd] at h ⊢
      by_cases hv : valL l.tail ≤ 9223372036854775808
      · rw [if_pos hv]
        have hb := val_digs _ _ (Nat.le_refl _) hd.1
        have hpos : 0 < valL l.tail := by
          cases h0 : valL l.tail with
          | succ m => omega
          | zero =>
            exfalso
            rw [h0, digs_lt (by omega)] at hb
            exact hd.2 hb.symm
        unfold numL
        simp only
        rw [if_pos (by omega), Int.natAbs_neg, Int.natAbs_natCast, hb]
        cases l with
        | nil => simp at h45
        | cons a l =>
          simp at h45
          rw [h45]
          rfl
      · rw [if_neg hv] at h; simp at h
    · rw [if_neg hd] at h; simp at h
  · rw [if_neg h45] at h ⊢
    by_cases hd : digitsL l = true
    · rw [if_pos hd] at h ⊢
      by_cases hv : valL l ≤ 9223372036854775807
      · rw [if_pos hv]
        unfold numL
        simp only
        rw [if_neg (by omega), Int.natAbs_natCast, val_digs _ _ (Nat.le_refl _) hd]
      · rw [if_neg hv] at h; simp at h
    · rw [if_neg hd] at h; simp at h

theorem fold_fold (l : List UInt8) : foldL (foldL l) = foldL l := by
  unfold foldL
  rw [List.map_map]
  apply List.map_congr_left
  intro c _
  exact low_low c
theorem okS_low (i : Nat) (c : UInt8) : okS i (low c) = okS i c := by
  have h : ∀ n : Fin 256, isLet (low (UInt8.ofNat n.val)) = isLet (UInt8.ofNat n.val) ∧ ((low (UInt8.ofNat n.val)) == 95) = (UInt8.ofNat n.val == 95) ∧ isDig (low (UInt8.ofNat n.val)) = isDig (UInt8.ofNat n.val) := by decide +kernel
  have hc : UInt8.ofNat c.toNat = c := by simp
  have := h ⟨c.toNat, c.toNat_lt⟩
  simp only [hc] at this
  unfold okS
  rw [this.1, this.2.1, this.2.2]
theorem name_fold (l : List UInt8) : nameL (foldL l) = nameL l := by
  unfold nameL
  rw [foldL_len]
  congr 1
  congr 1
  funext i
  rw [getD_fold, okS_low]

theorem single_dbl (s : List UInt8) : singleL (dblL s) = some s := by
  induction s with
  | nil => rfl
  | cons c s ih =>
    show singleL (dbl1 c ++ dblL s) = _
    by_cases h : c = 39
    · subst h
      show singleL (39 :: 39 :: dblL s) = _
      rw [singleL, if_pos rfl, if_pos rfl, ih]
      rfl
    · unfold dbl1
      rw [if_neg h]
      show singleL (c :: dblL s) = _
      rw [single_other _ _ h, ih]
      rfl
theorem dbl_single : ∀ (k : Nat) (l t : List UInt8), l.length ≤ k → singleL l = some t → dblL t = l
  | 0, l, t, hk, h => by
    have : l = [] := List.eq_nil_of_length_eq_zero (by omega)
    subst this
    simp [singleL] at h
    subst h; rfl
  | k + 1, [], t, hk, h => by
    simp [singleL] at h
    subst h; rfl
  | k + 1, [c], t, hk, h => by
    unfold singleL at h
    split at h
    · simp at h
    · rename_i hc
      simp at h
      subst h
      simp [dblL, dbl1, hc]
  | k + 1, c :: d :: r, t, hk, h => by
    rw [singleL] at h
    split at h
    · rename_i hc
      split at h
      · rename_i hd
        cases hs : singleL r with
        | none => rw [hs] at h; simp at h
        | some u =>
          rw [hs] at h
          simp at h
          subst h
          have := dbl_single k r u (by simp at hk; omega) hs
          show dbl1 39 ++ dblL u = _
          rw [this, hc, hd]
          rfl
      · simp at h
    · rename_i hc
      cases hs : singleL (d :: r) with
      | none => rw [hs] at h; simp at h
      | some u =>
        rw [hs] at h
        simp at h
        subst h
        have := dbl_single k (d :: r) u (by simp at hk ⊢; omega) hs
        show dbl1 c ++ dblL u = _
        rw [this]
        simp [dbl1, hc]
theorem nib_sgn : ∀ n : Nat, n < 16 → nibL (sgn n) = some n := by
  have h : ∀ n : Fin 16, nibL (sgn n.val) = some n.val := by decide +kernel
  exact fun n hn => h ⟨n, hn⟩
theorem sgn_nib (c : UInt8) (x : Nat) (h : nibL c = some x) : sgn x = low c := by
  have key : ∀ n : Fin 256, ∀ x : Fin 16, nibL (UInt8.ofNat n.val) = some x.val → sgn x.val = low (UInt8.ofNat n.val) := by decide +kernel
  have hc : UInt8.ofNat c.toNat = c := by simp
  have := key ⟨c.toNat, c.toNat_lt⟩ ⟨x, nibL_lt h⟩
  simp only [hc] at this
  exact this h
theorem unhex_hex (s : List UInt8) : unhexL (hexL s) = some s := by
  induction s with
  | nil => rfl
  | cons c s ih =>
    have hc := c.toNat_lt
    show unhexL (sgn (c.toNat / 16) :: sgn (c.toNat % 16) :: hexL s) = _
    rw [unhexL, nib_sgn _ (by omega), nib_sgn _ (by omega), ih]
    simp only [Option.map_some, Option.some.injEq, List.cons.injEq, and_true]
    apply UInt8.toNat_inj.1
    rw [UInt8.toNat_ofNat']
    omega
theorem hex_unhex : ∀ (k : Nat) (l t : List UInt8), l.length ≤ k → unhexL l = some t → hexL t = foldL l
  | 0, l, t, hk, h => by
    have : l = [] := List.eq_nil_of_length_eq_zero (by omega)
    subst this
    simp [unhexL] at h
    subst h; rfl
  | k + 1, [], t, hk, h => by
    simp [unhexL] at h
    subst h; rfl
  | k + 1, [_], t, hk, h => by simp [unhexL] at h
  | k + 1, a :: b :: r, t, hk, h => by
    rw [unhexL] at h
    split at h
    · rename_i x y hx hy
      cases hs : unhexL r with
      | none => rw [hs] at h; simp at h
      | some u =>
        rw [hs] at h
        simp at h
        subst h
        have := hex_unhex k r u (by simp at hk; omega) hs
        have lx := nibL_lt hx
        have ly := nibL_lt hy
        show hex1 _ ++ hexL u = _
        rw [this]
        have e : ((16 : UInt8) * UInt8.ofNat x + UInt8.ofNat y).toNat = 16 * x + y := by
          rw [UInt8.toNat_add, UInt8.toNat_mul, UInt8.toNat_ofNat', UInt8.toNat_ofNat', show (16 : UInt8).toNat = 16 from rfl]
          omega
        unfold hex1
        rw [e, show (16 * x + y) / 16 = x by omega, show (16 * x + y) % 16 = y by omega, sgn_nib a x hx, sgn_nib b y hy]
        rfl
    · simp at h
theorem inside_quoted (m : List UInt8) : insideL (39 :: (m ++ [39])) = some m := by
  unfold insideL
  rw [if_pos]
  · congr 1
    simp
  · refine ⟨by simp, rfl, ?_⟩
    simp [List.getD_eq_getElem?_getD]
theorem inside_back {l m : List UInt8} (h : insideL l = some m) : l = 39 :: (m ++ [39]) := by
  unfold insideL at h
  split at h
  · rename_i hc
    obtain ⟨h1, h2, h3⟩ := hc
    simp only [Option.some.injEq] at h
    subst h
    have e1 : l = l.take (l.length - 1) ++ l.drop (l.length - 1) := (List.take_append_drop _ _).symm
    have e2 : l.drop (l.length - 1) = [39] := by
      rw [drop_at l _ (by omega), h3, List.drop_of_length_le (by omega)]
    have e3 : l.take (l.length - 1) = 39 :: (l.take (l.length - 1)).drop 1 := by
      have hl : 0 < (l.take (l.length - 1)).length := by rw [List.length_take]; omega
      have := drop_at (l.take (l.length - 1)) 0 hl
      rw [List.drop_zero] at this
      have hg : (l.take (l.length - 1)).getD 0 0 = 39 := by
        rw [← h2]
        simp only [List.getD_eq_getElem?_getD, List.getElem?_take]
        rw [if_pos (by omega)]
      rw [hg] at this
      exact this
    rw [e2] at e1
    conv => lhs; rw [e1, e3]
    rfl
  · simp at h
/-- what is quoted is read again -/
theorem unquote_quote (v : V3) (h : I64 v.2.1) (hv : v.1 = 0 ∧ v.2.1 = 0 ∧ v.2.2 = [] ∨ v.1 = 1 ∧ v.2.2 = [] ∨ (v.1 = 2 ∨ v.1 = 3) ∧ v.2.1 = 0 ∧ v.2.2.length ≤ 4096) : unquoteL (quoteL v) = (v, 0) := by
  obtain ⟨k, n, s⟩ := v
  simp only at hv h
  rcases hv with ⟨rfl, rfl, rfl⟩ | ⟨rfl, rfl⟩ | ⟨hk, rfl, hl⟩
  · decide +kernel
  · have hq : quoteL (1, n, []) = numL n := rfl
    rw [hq]
    have hr := read_num n h
    have hne : numL n ≠ [] := by
      unfold numL
      split
      · simp
      · exact List.length_pos_iff.1 (digs_pos _)
    have hhead : ∀ c, (numL n).getD 0 0 = c → isDig c = true ∨ c = 45 := fun c hc => by
      unfold numL at hc
      split at hc
      · right; rw [← hc]; rfl
      · left
        have hp := digs_pos n.natAbs
        have := getD_dig (digs_all n.natAbs) hp
        rw [hc] at this
        simpa [isDig] using this
    have h39 : (numL n).getD 0 0 ≠ 39 := fun e => by
      rcases hhead _ e with h | h
      · exact absurd h (by decide)
      · exact absurd h (by decide)
    have h120 : low ((numL n).getD 0 0) ≠ 120 := fun e => by
      rcases (low120 _).1 e with e | e
      · rcases hhead _ e with h | h
        · exact absurd h (by decide)
        · exact absurd h (by decide)
      · rcases hhead _ e with h | h
        · exact absurd h (by decide)
        · exact absurd h (by decide)
    have hnull : foldL (numL n) ≠ [110, 117, 108, 108] := fun e => by
      have hg := getD_fold (numL n) 0
      rw [e] at hg
      have hlow : low ((numL n).getD 0 0) = 110 := hg.symm
      rcases hhead _ rfl with h | h
      · have key : ∀ n : Fin 256, isDig (UInt8.ofNat n.val) = true → low (UInt8.ofNat n.val) ≠ 110 := by decide +kernel
        have := key ⟨((numL n).getD 0 0).toNat, ((numL n).getD 0 0).toNat_lt⟩
        simp only [UInt8.ofNat_toNat] at this
        exact this h hlow
      · rw [h] at hlow
        exact absurd hlow (by decide)
    have hi : insideL (numL n) = none := by
      unfold insideL
      rw [if_neg]
      rintro ⟨_, h, _⟩
      exact h39 h
    unfold unquoteL
    rw [if_neg hnull, hi]
    simp only
    rw [if_neg (fun e => h120 e.2), hr]
    simp
  · rcases hk with rfl | rfl
    · have hq : quoteL (2, 0, s) = 39 :: (dblL s ++ [39]) := rfl
      rw [hq]
      have hnull : foldL (39 :: (dblL s ++ [39])) ≠ [110, 117, 108, 108] := fun e => by
        have : low 39 = 110 := by simpa [foldL] using congrArg (fun l => l.getD 0 0) e
        exact absurd this (by decide)
      unfold unquoteL
      rw [if_neg hnull, inside_quoted]
      simp only
      rw [single_dbl]
      simp only [madeV]
      rw [if_neg (by omega)]
    · have hq : quoteL (3, 0, s) = 120 :: 39 :: (hexL s ++ [39]) := rfl
      rw [hq]
      have hnull : foldL (120 :: 39 :: (hexL s ++ [39])) ≠ [110, 117, 108, 108] := fun e => by
        have : low 120 = 110 := by simpa [foldL] using congrArg (fun l => l.getD 0 0) e
        exact absurd this (by decide)
      have hi : insideL (120 :: 39 :: (hexL s ++ [39])) = none := by
        unfold insideL
        rw [if_neg]
        rintro ⟨_, h, _⟩
        have h : (120 : UInt8) = 39 := h
        exact absurd h (by decide)
      unfold unquoteL
      rw [if_neg hnull, hi]
      simp only
      rw [if_pos ⟨by simp, (by decide : low 120 = 120)⟩, show (120 :: 39 :: (hexL s ++ [39])).drop 1 = 39 :: (hexL s ++ [39]) from rfl, inside_quoted]
      simp only [Option.bind_some]
      rw [unhex_hex]
      simp only [madeV]
      rw [if_neg (by omega)]
/-- what is read is quoted again, but for large letters -/
theorem quote_unquote (l : List UInt8) (h : (unquoteL l).2 = 0) : quoteL (unquoteL l).1 = l ∨ ((unquoteL l).1.1 ≠ 2 ∧ quoteL (unquoteL l).1 = foldL l) := by
  unfold unquoteL at h ⊢
  by_cases hn : foldL l = [110, 117, 108, 108]
  · rw [if_pos hn, hn]
    exact .inr ⟨by decide, rfl⟩
  rw [if_neg hn] at h ⊢
  cases hi : insideL l with
  | some m =>
    rw [hi] at h
    simp only at h ⊢
    cases hs : singleL m with
    | none => rw [hs] at h; simp [madeV] at h
    | some t =>
      rw [hs] at h
      simp only [madeV] at h ⊢
      split at h
      · simp at h
      · rename_i hl
        rw [if_neg hl]
        left
        show 39 :: (dblL t ++ [39]) = l
        rw [dbl_single _ m t (Nat.le_refl _) hs, ← inside_back hi]
  | none =>
    rw [hi] at h
    simp only at h ⊢
    by_cases hx : l ≠ [] ∧ low (l.getD 0 0) = 120
    · rw [if_pos hx] at h ⊢
      cases hj : insideL (l.drop 1) with
      | none => rw [hj] at h; simp [madeV] at h
      | some m =>
        rw [hj] at h
        simp only [Option.bind_some] at h ⊢
        cases hs : unhexL m with
        | none => rw [hs] at h; simp [madeV] at h
        | some t =>
          rw [hs] at h
          simp only [madeV] at h ⊢
          split at h
          · simp at h
          · rename_i hl
            rw [if_neg hl]
            right
            refine ⟨by show (3 : Int) ≠ 2; decide, ?_⟩
            show 120 :: 39 :: (hexL t ++ [39]) = foldL l
            rw [hex_unhex _ m t (Nat.le_refl _) hs]
            have hb := inside_back hj
            have hd := drop_at l 0 (List.length_pos_iff.2 hx.1)
            rw [List.drop_zero, hb] at hd
            have e : foldL l = low (l.getD 0 0) :: foldL (39 :: (m ++ [39])) := by
              conv => lhs; rw [hd]
              rfl
            rw [e, hx.2]
            simp [foldL]
            decide
    · rw [if_neg hx] at h ⊢
      split at h
      · rename_i hr
        exact absurd h hr
      · rename_i hr
        rw [if_neg hr]
        left
        exact num_read l (Classical.not_not.1 hr)

/-- lines, each with its end -/
theorem split_flat (p : UInt8 → Bool) (l : List UInt8) : (splitR p l).length ≤ l.length + 1 := splitR_len p l
def backL (L : List (List UInt8)) : List UInt8 := L.flatMap fun w => w ++ [10]
theorem back_split : ∀ (l : List UInt8), backL (splitR is10 l) = l ++ [10]
  | [] => rfl
  | c :: r => by
    have ih := back_split r
    unfold splitR
    cases hc : is10 c
    · simp only [Bool.false_eq_true, if_false]
      cases hs : splitR is10 r with
      | nil => exact absurd hs (splitR_ne _ _)
      | cons a L =>
        rw [hs] at ih
        simp only [glue, backL, List.flatMap_cons] at ih ⊢
        rw [List.append_assoc, List.append_assoc, ← List.append_assoc a, ih]
        rfl
    · simp only [if_true]
      show [] ++ [10] ++ backL (splitR is10 r) = _
      rw [ih]
      have : c = 10 := by
        unfold is10 at hc
        apply UInt8.toNat_inj.1
        simpa using hc
      subst this
      rfl
theorem split_no (p : UInt8 → Bool) : ∀ (l : List UInt8) (w : List UInt8), w ∈ splitR p l → ∀ c ∈ w, p c = false
  | [], w, hw, c, hc => by
    simp [splitR] at hw
    subst hw
    simp at hc
  | a :: r, w, hw, c, hc => by
    unfold splitR at hw
    cases ha : p a
    · rw [ha] at hw
      simp only [Bool.false_eq_true, if_false] at hw
      cases hs : splitR p r with
      | nil => exact absurd hs (splitR_ne _ _)
      | cons b L =>
        rw [hs] at hw
        simp only [glue, List.mem_cons] at hw
        rcases hw with rfl | hw
        · simp only [List.cons_append, List.nil_append, List.mem_cons] at hc
          rcases hc with rfl | hc
          · exact ha
          · exact split_no p r b (by rw [hs]; simp) c hc
        · exact split_no p r w (by rw [hs]; simp [hw]) c hc
    · rw [ha] at hw
      simp only [if_true, List.mem_cons] at hw
      rcases hw with rfl | hw
      · simp at hc
      · exact split_no p r w hw c hc
theorem back_lines (l : List UInt8) : (¬ (0 < l.length ∧ l.getD (l.length - 1) 0 ≠ 10) → backL (linesL l) = l) ∧ ((0 < l.length ∧ l.getD (l.length - 1) 0 ≠ 10) → backL (linesL l) = l ++ [10]) := by
  have hb := back_split l
  have hno := split_no is10 l
  have hne := splitR_ne is10 l
  unfold linesL
  generalize splitR is10 l = L at *
  rcases List.eq_nil_or_concat L with rfl | ⟨M, w, rfl⟩
  · exact absurd rfl hne
  rw [List.concat_eq_append] at *
  have happ : backL (M ++ [w]) = backL M ++ (w ++ [10]) := by simp [backL]
  rw [happ] at hb
  have hl : l = backL M ++ w := by
    rw [← List.append_assoc] at hb
    exact (List.append_cancel_right hb).symm
  by_cases hw : w = []
  · subst hw
    rw [List.append_nil] at hl
    have e : (M ++ [([] : List UInt8)]).getLast? = some [] := by simp
    rw [if_pos e, List.dropLast_concat]
    refine ⟨fun _ => hl.symm, fun ⟨h1, h2⟩ => ?_⟩
    exfalso
    rcases List.eq_nil_or_concat M with rfl | ⟨M', v, rfl⟩
    · rw [hl] at h1; simp [backL] at h1
    · rw [List.concat_eq_append] at hl
      have : backL (M' ++ [v]) = (backL M' ++ v) ++ [10] := by simp [backL]
      rw [this] at hl
      rw [hl] at h2
      exact h2 (by simp [List.getD_eq_getElem?_getD])
  · have e : (M ++ [w]).getLast? ≠ some [] := by
      simp [hw]
    rw [if_neg e, happ, hb]
    refine ⟨fun h => ?_, fun _ => rfl⟩
    exfalso
    apply h
    rcases List.eq_nil_or_concat w with rfl | ⟨w', c, rfl⟩
    · exact absurd rfl hw
    rw [List.concat_eq_append] at *
    have hc := hno (w' ++ [c]) (by simp) c (by simp)
    rw [hl]
    refine ⟨by simp; omega, fun hh => ?_⟩
    have : ((backL M ++ (w' ++ [c])).getD ((backL M ++ (w' ++ [c])).length - 1) 0) = c := by
      rw [← List.append_assoc]
      simp [List.getD_eq_getElem?_getD]
    rw [this] at hh
    rw [hh] at hc
    exact absurd hc (by decide)
end Go.Proofs.YtknonjphjedmnaaDoor
