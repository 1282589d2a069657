/- What substr and instr of package fn compute. Conditions: texts of at most a million bytes, numbers of 64 bits. -/
import Derived.Test.YtabakkdlcjpjfaaDoorLi
import Derived.Test.YtabakkdlcjpjfaaDoorCt6
namespace Go.Proofs.YtabakkdlcjpjfaaDoor
open Go.RowKit Go.IntWalk
set_option linter.unusedSimpArgs false
set_option linter.unusedVariables false

/-- values as rows -/
def vc (L : List V3) : List (List CV) := L.map fun v => [.v (.int .i64 v.1), .v (.int .i64 v.2.1), .v (.string (bs v.2.2))]
theorem vc_len (L : List V3) : (vc L).length = L.length := by simp [vc]
theorem vc_sz (L : List V3) : ∀ el ∈ vc L, el.length = 3 := by
  intro el h
  simp only [vc, List.mem_map] at h
  obtain ⟨v, _, rfl⟩ := h
  rfl
theorem vc_drop (L : List V3) (n : Nat) : (vc L).drop n = vc (L.drop n) := by simp [vc]
theorem vc_get (L : List V3) (i : Nat) (h : i < L.length) : (vc L).getD i [] = [.v (.int .i64 (L.getD i nul).1), .v (.int .i64 (L.getD i nul).2.1), .v (.string (bs (L.getD i nul).2.2))] := by simp [vc, h]
theorem vc_k (L : List V3) (i : Int) (h0 : 0 ≤ i) (h : i < L.length) : [4, 4, 10] = ((((vc L).getD i.toNat []).drop 0).take 3).map kindC := by rw [vc_get L _ (by omega)]; rfl
theorem vc_k0 (L : List V3) (i : Int) (h0 : 0 ≤ i) (h : i < L.length) : [4] = ((((vc L).getD i.toNat []).drop 0).take 1).map kindC := by rw [vc_get L _ (by omega)]; rfl
theorem vc_k1 (L : List V3) (i : Int) (h0 : 0 ≤ i) (h : i < L.length) : [4] = ((((vc L).getD i.toNat []).drop 1).take 1).map kindC := by rw [vc_get L _ (by omega)]; rfl
theorem vc_k2 (L : List V3) (i : Int) (h0 : 0 ≤ i) (h : i < L.length) : [10] = ((((vc L).getD i.toNat []).drop 2).take 1).map kindC := by rw [vc_get L _ (by omega)]; rfl
theorem vc_0 (L : List V3) (i : Int) (h0 : 0 ≤ i) (h : i < L.length) : (cellAt (vc L) i 0).int = (L.getD i.toNat nul).1 := by simp only [cellAt]; rw [vc_get L _ (by omega)]; rfl
theorem vc_1 (L : List V3) (i : Int) (h0 : 0 ≤ i) (h : i < L.length) : (cellAt (vc L) i 1).int = (L.getD i.toNat nul).2.1 := by simp only [cellAt]; rw [vc_get L _ (by omega)]; rfl
theorem vc_2 (L : List V3) (i : Int) (h0 : 0 ≤ i) (h : i < L.length) : (cellAt (vc L) i 2).str = bs (L.getD i.toNat nul).2.2 := by simp only [cellAt]; rw [vc_get L _ (by omega)]; rfl
theorem vc_vD (L : List V3) (i : Int) (h0 : 0 ≤ i) (h : i < L.length) : DV.agg [.v (.int .i64 (cellAt (vc L) i 0).int), .v (.int .i64 (cellAt (vc L) i 1).int), .v (.string (cellAt (vc L) i 2).str)] = vD (L.getD i.toNat nul) := by
  rw [vc_0 L i h0 h, vc_1 L i h0 h, vc_2 L i h0 h]

def rawL (v : V3) : List UInt8 := if v.1 = 1 then numL v.2.1 else v.2.2
def Vs (v : V3) : Prop := I64 v.1 ∧ I64 v.2.1 ∧ Sm v.2.2
theorem rawL_sm {v : V3} (h : Vs v) : Sm (rawL v) := by
  unfold rawL
  split
  · have := numL_len v.2.1 h.2.1
    unfold Sm; omega
  · exact h.2.2
theorem c_raw (v : V3) (h : Vs v) : FnC Tryd.prog 36 [vD v] (sD (rawL v)) := by
  refine w36 v.1 v.2.1 (bs v.2.2) ?_
  unfold rawL
  refine ⟨fun e => ⟨_, c_tNum v.2.1 h.2.1, ?_⟩, fun e => ?_⟩ <;> simp [e, sD]
theorem c_fnum (n : Int) : FnC Tryd.prog 38 [iD n] (.tup [vD (1, n, []), iD 0]) := by
  refine w38 n ?_
  (try simp only [mk_bs, bs_inj, bs_size, bs_toList, bs_append, byteAt_bs])
  (repeat' (first | (with_reducible refine ⟨_, (c_vNum _), ?_⟩) | (with_reducible refine ⟨_, _, (c_vNum _), ?_⟩) | (with_reducible refine ⟨_, _, _, (c_vNum _), ?_⟩) | (with_reducible refine ⟨_, _, _, _, (c_vNum _), ?_⟩) | (with_reducible refine ⟨_, fun _ => (c_vNum _), ?_⟩) | (with_reducible refine ⟨_, _, fun _ => (c_vNum _), ?_⟩) | (with_reducible refine ⟨_, _, _, fun _ => (c_vNum _), ?_⟩) | (with_reducible refine ⟨_, _, _, _, fun _ => (c_vNum _), ?_⟩) | with_reducible refine ⟨fun _ => ?_, fun _ => ?_⟩ | fail))
  all_goals (rfl)
theorem c_fstr (s : List UInt8) : FnC Tryd.prog 31 [sD s] (.tup [vD (2, 0, s), iD 0]) := by
  refine w31 (bs s) ?_
  (try simp only [mk_bs, bs_inj, bs_size, bs_toList, bs_append, byteAt_bs])
  (repeat' (first | (with_reducible refine ⟨_, (c_vStr _), ?_⟩) | (with_reducible refine ⟨_, _, (c_vStr _), ?_⟩) | (with_reducible refine ⟨_, _, _, (c_vStr _), ?_⟩) | (with_reducible refine ⟨_, _, _, _, (c_vStr _), ?_⟩) | (with_reducible refine ⟨_, fun _ => (c_vStr _), ?_⟩) | (with_reducible refine ⟨_, _, fun _ => (c_vStr _), ?_⟩) | (with_reducible refine ⟨_, _, _, fun _ => (c_vStr _), ?_⟩) | (with_reducible refine ⟨_, _, _, _, fun _ => (c_vStr _), ?_⟩) | with_reducible refine ⟨fun _ => ?_, fun _ => ?_⟩ | fail))
  all_goals (rfl)

/-- where t stands first in s, from i on -/
def findL (s t : List UInt8) (i : Nat) : Int :=
  if h : i + t.length ≤ s.length then (if (s.drop i).take t.length = t then i else if h2 : i < s.length then findL s t (i + 1) else -1) else -1
termination_by s.length - i
theorem c_find (s t : List UInt8) (i : Nat) (hs : Sm s) (ht : Sm t) (hi : i ≤ s.length) : FnC Tryd.prog 64 [sD s, sD t, iD i] (iD (findL s t i)) := by
  refine w64 (bs s) (bs t) i ?_
  unfold Sm at hs ht
  simp only [bs_size, bs_extract, bs_inj]
  refine ⟨fun j m => ∃ J : Nat, j = J ∧ J ≤ s.length + 1 ∧ findL s t i = findL s t J ∧ m = s.length + 1 - J, ⟨_, i, rfl, by omega, rfl, rfl⟩, ?_⟩
  rintro m j ⟨J, rfl, hJ, hf, rfl⟩
  rw [i64_in ((J : Int) + t.length) (by omega), show ((J : Int) + t.length).toNat = J + t.length by omega, Int.toNat_natCast]
  rw [hf, findL]
  have e : (s.take (J + t.length)).drop J = (s.drop J).take t.length := by rw [List.drop_take]; congr 1; omega
  rw [e]
  refine ⟨fun h => ⟨by omega, fun h2 => ?_, fun h2 => ?_⟩, fun h => ?_⟩
  · rw [dif_pos (by omega), if_pos h2]
  · have h3 : J < s.length := by
      by_cases h4 : J < s.length
      · exact h4
      · exfalso
        apply h2
        have : t.length = 0 := by omega
        rw [List.length_eq_zero_iff.1 this]; simp
    refine ⟨_, ?_, J + 1, by rw [i64_in _ (by omega)]; omega, by omega, ?_, rfl⟩
    · omega
    · rw [dif_pos (by omega), if_neg h2, dif_pos h3]
  · rw [dif_neg (by omega)]
def instrR (a b : V3) : DV := if (a.1 = 3) ↔ (b.1 = 3) then .tup [vD (1, findL (rawL a) (rawL b) 0 + 1, []), iD 0] else .tup [vD nul, iD 11]
theorem findL_rng (s t : List UInt8) : ∀ i, -1 ≤ findL s t i ∧ findL s t i ≤ s.length := fun i => by
  induction h : s.length - i using Nat.strongRecOn generalizing i with
  | _ n ih =>
    rw [findL]
    split
    · split
      · omega
      · split
        · exact ih _ (by omega) _ rfl
        · omega
    · omega
theorem c_instr (a b : V3) (ha : Vs a) (hb : Vs b) : FnC Tryd.prog 40 [vD a, vD b] (instrR a b) := by
  refine w40 a.1 a.2.1 (bs a.2.2) b.1 b.2.1 (bs b.2.2) ?_
  have e : (a.1 == 3) = (b.1 == 3) ↔ ((a.1 = 3) ↔ (b.1 = 3)) := by
    by_cases h1 : a.1 = 3 <;> by_cases h2 : b.1 = 3 <;> simp [h1, h2]
    rw [beq_eq_false_iff_ne.2 h1, beq_eq_false_iff_ne.2 h2]
  rw [e]
  unfold instrR
  refine ⟨fun h => ?_, fun h => ?_⟩
  · rw [if_neg h]; rfl
  · rw [if_pos (Classical.not_not.1 h)]
    have := findL_rng (rawL a) (rawL b) 0
    have hs := rawL_sm ha
    have := hs
    unfold Sm at this
    refine ⟨_, c_raw a ha, _, c_raw b hb, _, c_find _ _ 0 hs (rawL_sm hb) (by omega), ?_⟩
    rw [i64_in _ (by omega)]
    exact ⟨_, _, _, _, c_fnum _, rfl⟩

/-- the bytes that substr cuts out -/
def subL (s : List UInt8) (from0 : Int) (many : Option Int) : List UInt8 :=
  let f := if from0 < 0 then (s.length : Int) + 1 + from0 else if from0 = 0 then 1 else from0
  let hi : Int := match many with
    | none => s.length
    | some m => if m < 1 then 0 else f - 1 + m
  (s.take hi.toNat).drop (f - 1).toNat
theorem cut_same {l : List UInt8} {a b a' b' : Nat} (h : (min b l.length ≤ a ∧ min b' l.length ≤ a') ∨ (a = a' ∧ min b l.length = min b' l.length)) : (l.take b).drop a = (l.take b').drop a' := by
  have e : ∀ n : Nat, l.take n = l.take (min n l.length) := fun n => by
    by_cases hn : n ≤ l.length
    · rw [Nat.min_eq_left hn]
    · rw [Nat.min_eq_right (by omega), List.take_of_length_le (by omega), List.take_length]
  rcases h with ⟨h1, h2⟩ | ⟨rfl, h⟩
  · rw [List.drop_eq_nil_of_le (by rw [List.length_take]; omega), List.drop_eq_nil_of_le (by rw [List.length_take]; omega)]
  · rw [e b, e b', h]
def subV (v : V3) (from0 : Int) (many : Option Int) : V3 := (if v.1 = 3 then 3 else 2, 0, subL (rawL v) from0 many)
theorem c_substr2 (v a : V3) (hv : Vs v) (ha : Vs a) : FnC Tryd.prog 43 [.c (.vs (vc [v, a]))] (if a.1 = 1 then .tup [vD (subV v a.2.1 none), iD 0] else .tup [vD nul, iD 11]) := by
  refine w43 (vc [v, a]) ?_
  simp only [vc_len, vc_drop]
  refine ⟨by simp, vc_sz _, vc_k _ _ (by omega) (by simp), by simp, vc_sz _, ?_⟩
  refine ⟨fun i m => (i = 0 ∧ m = 1) ∨ (i = 1 ∧ a.1 = 1 ∧ m = 0), ⟨_, .inl ⟨rfl, rfl⟩⟩, ?_⟩
  rintro m i (⟨rfl, rfl⟩ | ⟨rfl, h1, rfl⟩)
  · refine ⟨fun _ => ⟨by simp, vc_sz _, vc_k _ _ (by omega) (by simp), ?_⟩, fun h => absurd h (by simp)⟩
    rw [vc_0 _ _ (by omega) (by simp)]
    refine ⟨fun h => ?_, fun h => ?_⟩
    · rw [if_neg (show ¬ a.1 = 1 from h)]; rfl
    · exact ⟨_, by omega, .inr ⟨by decide, Classical.not_not.1 h, rfl⟩⟩
  · refine ⟨fun h => absurd h (by simp), fun _ => ?_⟩
    rw [if_pos h1]
    refine ⟨_, c_raw v hv, by simp, vc_sz _, vc_k1 _ _ (by omega) (by simp), ?_⟩
    have hr := rawL_sm hv
    have hn := ha.2.1
    unfold Sm at hr
    unfold I64 at hn
    rw [vc_0 _ _ (by omega) (by simp), vc_1 _ _ (by omega) (by simp)]
    simp only [show ([v, a] : List V3).getD (0 : Int).toNat nul = v from rfl, show ([v, a] : List V3).getD (1 : Int).toNat nul = a from rfl, show (([v, a] : List V3).length : Int) = 2 from rfl, bs_size]
    unfold subV subL
    generalize rawL v = s at *
    generalize a.2.1 = n at *
    simp only [bs_extract, mk_bs]
    (repeat' (first | (exfalso; omega) | (exact absurd trivial ‹¬ True›) | (with_reducible refine ⟨_, _, _, _, c_fstr _, ?_⟩) | (with_reducible refine ⟨_, _, _, c_vBytes _, ?_⟩) | with_reducible refine ⟨fun _ => ?_, fun _ => ?_⟩ | with_reducible refine ⟨⟨?_, ?_, ?_⟩, ?_⟩ | fail))
    all_goals first
      | ((iterate 3 (try simp (disch := omega) only [i64_in, decide_eq_true_eq, and_true, true_and, or_true, true_or] at *)); omega)
      | (rename_i e3; rw [if_pos e3]; refine congrArg (fun l => DV.tup [vD (3, 0, l), iD 0]) ?_; (first | refine cut_same ?_ | (refine Eq.trans (List.take_zero (l := s)).symm ?_; refine Eq.trans (List.drop_zero (l := s.take 0)).symm ?_; refine cut_same ?_)); (iterate 3 (try simp (disch := omega) only [i64_in, decide_eq_true_eq, and_true, true_and, or_true, true_or] at *)); omega)
      | (rename_i e3; rw [if_neg e3]; refine congrArg (fun l => DV.tup [vD (2, 0, l), iD 0]) ?_; (first | refine cut_same ?_ | (refine Eq.trans (List.take_zero (l := s)).symm ?_; refine Eq.trans (List.drop_zero (l := s.take 0)).symm ?_; refine cut_same ?_)); (iterate 3 (try simp (disch := omega) only [i64_in, decide_eq_true_eq, and_true, true_and, or_true, true_or] at *)); omega)
      | fail
set_option maxHeartbeats 4000000 in
theorem c_substr3 (v a b : V3) (hv : Vs v) (ha : Vs a) (hb : Vs b) : FnC Tryd.prog 43 [.c (.vs (vc [v, a, b]))] (if a.1 = 1 ∧ b.1 = 1 then .tup [vD (subV v a.2.1 (some b.2.1)), iD 0] else .tup [vD nul, iD 11]) := by
  refine w43 (vc [v, a, b]) ?_
  simp only [vc_len, vc_drop]
  refine ⟨by simp, vc_sz _, vc_k _ _ (by omega) (by simp), by simp, vc_sz _, ?_⟩
  refine ⟨fun i m => (i = 0 ∧ m = 2) ∨ (i = 1 ∧ a.1 = 1 ∧ m = 1) ∨ (i = 2 ∧ a.1 = 1 ∧ b.1 = 1 ∧ m = 0), ⟨_, .inl ⟨rfl, rfl⟩⟩, ?_⟩
  rintro m i (⟨rfl, rfl⟩ | ⟨rfl, h1, rfl⟩ | ⟨rfl, h1, h2, rfl⟩)
  · refine ⟨fun _ => ⟨by simp, vc_sz _, vc_k _ _ (by omega) (by simp), ?_⟩, fun h => absurd h (by simp)⟩
    rw [vc_0 _ _ (by omega) (by simp)]
    refine ⟨fun h => ?_, fun h => ?_⟩
    · rw [if_neg (fun e => (show ¬ a.1 = 1 from h) e.1)]; rfl
    · exact ⟨_, by omega, .inr (.inl ⟨by decide, Classical.not_not.1 h, rfl⟩)⟩
  · refine ⟨fun _ => ⟨by simp, vc_sz _, vc_k _ _ (by omega) (by simp), ?_⟩, fun h => absurd h (by simp)⟩
    rw [vc_0 _ _ (by omega) (by simp)]
    refine ⟨fun h => ?_, fun h => ?_⟩
    · rw [if_neg (fun e => (show ¬ b.1 = 1 from h) e.2)]; rfl
    · exact ⟨_, by omega, .inr (.inr ⟨by decide, h1, Classical.not_not.1 h, rfl⟩)⟩
  · refine ⟨fun h => absurd h (by simp), fun _ => ?_⟩
    rw [if_pos ⟨h1, h2⟩]
    refine ⟨_, c_raw v hv, by simp, vc_sz _, vc_k1 _ _ (by omega) (by simp), ?_⟩
    have hr := rawL_sm hv
    have hn := ha.2.1
    have hm := hb.2.1
    unfold Sm at hr
    unfold I64 at hn hm
    rw [vc_0 _ _ (by omega) (by simp), vc_1 _ _ (by omega) (by simp)]
    rw [vc_1 _ (2 : Int) (by omega) (by simp)]
    simp only [show ([v, a, b] : List V3).getD (0 : Int).toNat nul = v from rfl, show ([v, a, b] : List V3).getD (1 : Int).toNat nul = a from rfl, show ([v, a, b] : List V3).getD (2 : Int).toNat nul = b from rfl, show (([v, a, b] : List V3).length : Int) = 3 from rfl, bs_size]
    unfold subV subL
    generalize rawL v = s at *
    generalize a.2.1 = n at *
    generalize b.2.1 = k at *
    have vk1 : (∀ el ∈ vc [v, a, b], el.length = 3) := vc_sz _
    have vk2 : [4] = ((((vc [v, a, b]).getD (2 : Int).toNat []).drop 1).take 1).map kindC := vc_k1 _ _ (by omega) (by simp)
    simp only [bs_extract, mk_bs]
    (repeat' (first | (exfalso; omega) | (exact absurd trivial ‹¬ True›) | (with_reducible refine ⟨_, _, _, _, c_fstr _, ?_⟩) | (with_reducible refine ⟨_, _, _, c_vBytes _, ?_⟩) | with_reducible refine ⟨fun _ => ?_, fun _ => ?_⟩ | with_reducible refine ⟨⟨by omega, by omega⟩, vk1, vk2, ?_⟩ | with_reducible refine ⟨⟨?_, ?_, ?_⟩, ?_⟩ | fail))
    all_goals first
      | ((iterate 3 (try simp (disch := omega) only [i64_in, decide_eq_true_eq, and_true, true_and, or_true, true_or] at *)); omega)
      | (rename_i e3; rw [if_pos e3]; refine congrArg (fun l => DV.tup [vD (3, 0, l), iD 0]) ?_; (first | refine cut_same ?_ | (refine Eq.trans (List.take_zero (l := s)).symm ?_; refine Eq.trans (List.drop_zero (l := s.take 0)).symm ?_; refine cut_same ?_)); (iterate 3 (try simp (disch := omega) only [i64_in, decide_eq_true_eq, and_true, true_and, or_true, true_or] at *)); omega)
      | (rename_i e3; rw [if_neg e3]; refine congrArg (fun l => DV.tup [vD (2, 0, l), iD 0]) ?_; (first | refine cut_same ?_ | (refine Eq.trans (List.take_zero (l := s)).symm ?_; refine Eq.trans (List.drop_zero (l := s.take 0)).symm ?_; refine cut_same ?_)); (iterate 3 (try simp (disch := omega) only [i64_in, decide_eq_true_eq, and_true, true_and, or_true, true_or] at *)); omega)
      | fail
end Go.Proofs.YtabakkdlcjpjfaaDoor
