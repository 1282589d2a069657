/- The chapter's examples hold; the walks of the statements about texts. Conditions: numbers of 64 bits, texts that a machine can hold. -/
import Derived.Test.YtknonjphjedmnaaDoorTe
namespace Go.Proofs.YtknonjphjedmnaaDoor
open Go.RowKit Go.IntWalk
set_option linter.unusedSimpArgs false
set_option linter.unusedVariables false

theorem sm_of (l : List UInt8) (h : l.length ≤ 100 := by decide) : Sm l := by unfold Sm; omega
theorem c_live03 : FnC Tryd.prog 11 [] (bD true) := by
  refine w11 ?_
  have r1 : readL [45, 48] = (0, 8) := by decide +kernel
  have r2 : readL [57, 50, 50, 51, 51, 55, 50, 48, 51, 54, 56, 53, 52, 55, 55, 53, 56, 48, 56] = (0, 9) := by decide +kernel
  have c1 := c_tRead [45, 48] (sm_of _).sz
  have c2 := c_tRead [57, 50, 50, 51, 51, 55, 50, 48, 51, 54, 56, 53, 52, 55, 55, 53, 56, 48, 56] (sm_of _).sz
  rw [r1] at c1
  rw [r2] at c2
  have u : unquoteL [88, 39, 48, 65, 39] = ((3, 0, [10]), 0) := by decide +kernel
  have c3 := c_tUnquote [88, 39, 48, 65, 39] (sm_of _)
  rw [u] at c3
  have c4 := c_tQuote (2, 0, [105, 116, 39, 115]) (by decide) (sm_of _)
  have q : quoteL (2, 0, [105, 116, 39, 115]) = [39, 105, 116, 39, 39, 115, 39] := by decide +kernel
  rw [q] at c4
  have c5 := c_tName [95, 97, 49] (sm_of _)
  have n : nameL [95, 97, 49] = true := by decide +kernel
  rw [n] at c5
  have c6 := c_tLines [97, 10, 10, 98] (sm_of _)
  have li : linesL [97, 10, 10, 98] = [[97], [], [98]] := by decide +kernel
  rw [li] at c6
  refine ⟨_, _, c1, _, _, c2, _, _, _, _, c3, _, fun _ => c4, _, fun _ => c5, _, fun _ => c6, fun _ x11 hx11 => ?_, fun h => ?_⟩
  · have e : x11 = sc [[97], [], [98]] := hx11
    subst e
    exact ⟨_, c_r3Same [[97], [], [98]] [[97], [], [98]] (by decide), rfl⟩
  · exact absurd ⟨⟨⟨⟨⟨rfl, rfl⟩, rfl⟩, rfl⟩, rfl, rfl, rfl, rfl⟩, rfl⟩ h

theorem walkNums (n : Int) (h : I64 n) : FnC Tryd.prog 3 [iD n] (bD true) := by
  refine w3 n ?_
  have hs : Sz (numL n) := by
    have := numL_len n h
    unfold Sz; omega
  refine ⟨_, c_tNum n h, _, _, c_tRead _ hs, _, c_live03, _, fun _ => c_r3Num n h, ?_⟩
  rw [read_num n h]
  simp
theorem walkReads (l : List UInt8) (hs : Sz l) : FnC Tryd.prog 4 [sD l] (bD true) := by
  refine w4 (bs l) ?_
  have hr : I64 (readL l).1 := by
    unfold readL
    repeat' split
    all_goals (constructor <;> simp only [] <;> omega)
  refine ⟨fun _ => ⟨_, c_live03, rfl⟩, fun _ => ⟨_, _, c_tRead l hs, _, _, c_r3Read l hs, _, c_live03, _, fun _ => c_tNum _ hr, ?_⟩⟩
  by_cases h : (readL l).2 = 0
  · rw [num_read l h]; simp
  · simp [h]
theorem walkFolds (l : List UInt8) (hs : Sz l) : FnC Tryd.prog 5 [sD l] (bD true) := by
  refine w5 (bs l) ?_
  rw [bs_size]
  refine ⟨fun _ => ⟨_, c_live03, rfl⟩, fun hl => ?_⟩
  have hm : Sm l := by unfold Sm; omega
  have hm2 : Sm (foldL l) := by unfold Sm; rw [foldL_len]; omega
  refine ⟨_, c_tFold l hs, _, c_live03, _, fun _ => c_r3Fold l hm, _, fun _ => c_tFold _ hm2.sz, _, fun _ => c_tName l hm, _, fun _ => c_r3Name l hm, _, fun _ => c_tName _ hm2, _, fun _ => c_tName l hm, ?_⟩
  rw [fold_fold, name_fold]
  simp
theorem c_r3May (v : V3) : FnC Tryd.prog 22 [vD v] (bD (decide (v.1 = 0 ∧ v.2.1 = 0 ∧ v.2.2 = [] ∨ v.1 = 1 ∧ v.2.2 = [] ∨ (v.1 = 2 ∨ v.1 = 3) ∧ v.2.1 = 0 ∧ v.2.2.length ≤ 4096))) := by
  refine w22 v.1 v.2.1 (bs v.2.2) ?_
  simp only [mk_bs, bs_toList, bs_size]
  obtain ⟨k, n, s⟩ := v
  simp only
  refine ⟨fun h => ?_, fun h => ⟨fun h1 => ?_, fun h1 => ⟨fun h2 => ?_, fun h2 => ⟨fun h3 => ?_, fun h3 => ?_⟩⟩⟩⟩
  · subst h; congr 3; rw [Bool.eq_iff_iff]; simp
  · subst h1; congr 3; rw [Bool.eq_iff_iff]; simp
  · subst h2; congr 3; rw [Bool.eq_iff_iff]; simp; omega
  · subst h3; congr 3; rw [Bool.eq_iff_iff]; simp; omega
  · congr 3; rw [Bool.eq_iff_iff]; simp; omega
theorem quote_len (v : V3) (h : I64 v.2.1) : (quoteL v).length ≤ 2 * v.2.2.length + 30 := by
  have := numL_len v.2.1 h
  have := dblL_len v.2.2
  have := hexL_len v.2.2
  unfold quoteL
  repeat' split
  all_goals simp
  all_goals omega
theorem walkQuotes (v : V3) (h : I64 v.2.1) : FnC Tryd.prog 6 [vD v] (bD true) := by
  refine w6 v.1 v.2.1 (bs v.2.2) ?_
  rw [bs_size]
  refine ⟨fun _ => ⟨_, c_live03, rfl⟩, fun hl => ?_⟩
  have hm : Sm v.2.2 := by unfold Sm; omega
  have hq : Sm (quoteL v) := by
    have := quote_len v h
    unfold Sm; omega
  refine ⟨_, c_tQuote v h hm, _, c_r3Quote v h hm, _, fun _ => c_tHex _ hm, _, fun _ => c_r3Hex _ hm, fun hb => ?_, fun _ => ⟨_, c_r3May v, fun hb => ⟨_, c_live03, rfl⟩, fun hb => ?_⟩⟩
  · rcases hb with hb | hb <;> exact absurd rfl hb
  · have hv := of_decide_eq_true (Classical.not_not.1 hb)
    refine ⟨_, _, _, _, c_tUnquote _ hq, _, c_live03, ?_⟩
    rw [unquote_quote v h hv]
    simp
theorem walkUnquotes (l : List UInt8) : FnC Tryd.prog 7 [sD l] (bD true) := by
  refine w7 (bs l) ?_
  rw [bs_size]
  refine ⟨fun _ => ⟨_, c_live03, rfl⟩, fun hl => ?_⟩
  have hm : Sm l := by unfold Sm; omega
  refine ⟨_, _, _, _, c_tUnquote l hm, _, _, _, _, c_r3Unquote l hm, fun hb => ?_, fun _ => ⟨fun he => ⟨_, c_live03, rfl⟩, fun he => ?_⟩⟩
  · rcases hb with hb | hb
    · exact absurd ⟨rfl, rfl, rfl, rfl⟩ hb
    · exact absurd rfl hb
  · have he := Classical.not_not.1 he
    have hr : I64 (unquoteL l).1.2.1 ∧ Sm (unquoteL l).1.2.2 := by
      have hr : I64 (readL l).1 := by
        unfold readL
        repeat' split
        all_goals (constructor <;> simp only [] <;> omega)
      have hz : I64 0 := by decide
      have hn : Sm [] := by unfold Sm; simp
      have hmade : ∀ k o, I64 (madeV k o).1.2.1 ∧ Sm (madeV k o).1.2.2 := fun k o => by
        unfold madeV
        split
        · exact ⟨hz, hn⟩
        · split
          · exact ⟨hz, hn⟩
          · refine ⟨hz, ?_⟩
            unfold Sm
            show List.length _ ≤ _
            simp only
            omega
      unfold unquoteL
      repeat' split
      all_goals first | exact hmade _ _ | exact ⟨hz, hn⟩ | exact ⟨hr, hn⟩
    have hq := quote_unquote l he
    refine ⟨_, c_live03, _, fun _ => c_tQuote _ hr.1 hr.2, _, fun _ => c_tQuote _ hr.1 hr.2, _, fun _ => c_tFold l hm.sz, ?_⟩
    rw [bs_beq, bs_beq]
    rcases hq with hq | ⟨hq1, hq2⟩
    · simp [hq]
    · rw [hq2]
      simp [hq1]
theorem walkParts (l : List UInt8) : FnC Tryd.prog 8 [sD l] (bD true) := by
  refine w8 (bs l) ?_
  simp only [bs_size]
  refine ⟨fun _ => ⟨_, c_live03, rfl⟩, fun hl => ?_⟩
  have hm : Sm l := by unfold Sm; omega
  refine ⟨_, c_tLines l hm, ?_⟩
  have hbl := back_lines l
  have hll : (linesL l).length ≤ l.length + 1 := by
    have := splitR_len is10 l
    unfold linesL
    split
    · simp; omega
    · exact this
  have hb9 : (backL (linesL l)).length ≤ l.length + 1 := by
    by_cases h : 0 < l.length ∧ l.getD (l.length - 1) 0 ≠ 10
    · rw [hbl.2 h]; simp
    · rw [hbl.1 h]; omega
  have hwl : ∀ L : List (List UInt8), L.length ≤ 5000 → FnC Tryd.prog 26 [.c (.vs (sc L)), .c (.vs (sc L))] (bD (decide (L = L))) := fun L h => c_r3Same L L (by omega)
  have hw : (wordsL l).length ≤ l.length + 1 := Nat.le_trans (List.length_filter_le _ _) (splitR_len _ _)
  generalize hL : linesL l = L at *
  rw [sc_len]
  have hpre : ∀ i, (backL (L.take i)).length ≤ (backL L).length := fun i => by
    have e : backL (L.take i ++ L.drop i) = backL (L.take i) ++ backL (L.drop i) := by simp only [backL, List.flatMap_append]
    rw [List.take_append_drop] at e
    rw [e, List.length_append]
    omega
  refine ⟨fun out i k => 0 ≤ i ∧ i ≤ L.length ∧ out = bs (backL (L.take i.toNat)) ∧ k = L.length - i.toNat, ⟨_, by omega, by omega, rfl, rfl⟩, ?_⟩
  rintro k out i ⟨h0, h1, rfl, rfl⟩
  refine ⟨fun hi => ?_, fun hi => ?_⟩
  · have hsn : L.take (i.toNat + 1) = L.take i.toNat ++ [L.getD i.toNat []] := by
      rw [List.take_add_one]
      congr 1
      simp [List.getD_eq_getElem?_getD, show i.toNat < L.length by omega]
    have hb1 : backL (L.take (i.toNat + 1)) = backL (L.take i.toNat) ++ (L.getD i.toNat [] ++ [10]) := by rw [hsn]; simp [backL]
    have hp := hpre (i.toNat + 1)
    rw [hb1] at hp
    simp only [List.length_append, List.length_singleton] at hp
    rw [sc_at L i h0 hi]
    simp only [mk_bs, bs_append, bs_size]
    rw [i64_in _ (by omega)]
    refine ⟨by omega, sc_sz _, sc_kind L i h0 hi, by omega, by rw [List.length_append, List.length_singleton]; omega, _, ?_, by omega, by omega, ?_, rfl⟩
    · omega
    · rw [nat_i i h0, hb1, List.append_assoc]
  · have e : i.toNat = L.length := by omega
    rw [e, List.take_length]
    simp only [bs_size, byteAt_bs, bs_extract, bs_inj, n10]
    refine ⟨fun h => by rw [i64_in _ (by omega)]; omega, fun hc => ?_, fun hc => ?_⟩
    · obtain ⟨hpos, hlast⟩ := hc
      rw [i64_in ((l.length : Int) - 1) (by omega), show ((l.length : Int) - 1).toNat = l.length - 1 by omega] at hlast
      have hbk := hbl.2 ⟨by omega, fun e => hlast (by rw [e]; decide)⟩
      rw [hbk]
      refine ⟨fun h => by simp at h; omega, fun _ => ?_⟩
      have e1 : IntKind.wrap .i64 (((l ++ [10]).length : Int) - 1) = (l.length : Int) := by
        rw [i64_in _ (by simp; omega)]; simp
      rw [e1, Int.toNat_natCast, show (0 : Int).toNat = 0 from rfl, List.drop_zero, List.take_left']
      · refine ⟨by simp; omega, _, c_live03, _, fun _ => c_r3Lines l hm, decide (L = L), fun _ => ?_, _, fun _ => c_tWords l hm, _, fun _ => c_r3Words l hm, _, fun _ => hwl _ (by omega), ?_⟩
        · rw [hL]; exact hwl _ (by omega)
        · simp
      · rfl
    · have hbk := hbl.1 (fun ⟨h1, h2⟩ => hc ⟨by omega, by
        rw [i64_in ((l.length : Int) - 1) (by omega), show ((l.length : Int) - 1).toNat = l.length - 1 by omega]
        intro h
        apply h2
        unfold is10 at h
        apply UInt8.toNat_inj.1
        simpa using h⟩)
      rw [hbk]
      refine ⟨_, c_live03, _, fun _ => c_r3Lines l hm, decide (L = L), fun _ => ?_, _, fun _ => c_tWords l hm, _, fun _ => c_r3Words l hm, _, fun _ => hwl _ (by omega), ?_⟩
      · rw [hL]; exact hwl _ (by omega)
      · simp
end Go.Proofs.YtknonjphjedmnaaDoor
