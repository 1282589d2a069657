/- concat; the walk of the statement about cuts. Condition: texts that a machine can hold. -/
import Derived.Test.YtabakkdlcjpjfaaDoorFd
namespace Go.Proofs.YtabakkdlcjpjfaaDoor
open Go.RowKit Go.IntWalk
set_option linter.unusedSimpArgs false
set_option linter.unusedVariables false

def catL (L : List V3) : List UInt8 := L.flatMap rawL
theorem catL_len : ∀ {L : List V3}, (∀ v ∈ L, Vs v) → (catL L).length ≤ L.length * 1000000
  | [], _ => by simp [catL]
  | v :: L, h => by
    have h1 := rawL_sm (h v (by simp))
    have h2 := catL_len (L := L) fun u hu => h u (by simp [hu])
    unfold Sm at h1
    simp only [catL, List.flatMap_cons, List.length_append, List.length_cons] at h2 ⊢
    omega
theorem catL_snoc (L : List V3) (v : V3) : catL (L ++ [v]) = catL L ++ rawL v := by simp [catL]
theorem getD_memV (L : List V3) (K : Nat) (h : K < L.length) : L.getD K nul ∈ L := by
  rw [List.getD_eq_getElem?_getD, List.getElem?_eq_getElem h]
  exact List.getElem_mem h
def catR (L : List V3) : V3 × Int := if L.any (fun v => v.1 == 3) = true then (nul, 11) else ((2, 0, catL L), 0)
theorem c_concat (L : List V3) (hL : ∀ v ∈ L, Vs v) (hl : L.length ≤ 1000000) : FnC Tryd.prog 35 [.c (.vs (vc L))] (.tup [vD (catR L).1, iD (catR L).2]) := by
  refine w35 (vc L) ?_
  rw [vc_len]
  refine ⟨fun rows i m => ∃ K : Nat, i = K ∧ K ≤ L.length ∧ rows = bc (catL (L.take K)) ∧ (L.take K).any (fun v => v.1 == 3) = false ∧ m = L.length - K, ⟨_, 0, rfl, by omega, rfl, by simp, rfl⟩, ?_⟩
  rintro m rows i ⟨K, rfl, hK, rfl, hn, rfl⟩
  have hT : (catL (L.take K)).length ≤ (L.take K).length * 1000000 := catL_len fun v hv => hL v (List.mem_of_mem_take hv)
  rw [List.length_take] at hT
  refine ⟨fun hi => ⟨by omega, vc_sz _, vc_k _ _ (by omega) (by omega), ?_⟩, fun hi => ?_⟩
  · rw [vc_vD _ _ (by omega) (by omega), vc_0 _ _ (by omega) (by omega), Int.toNat_natCast]
    have hm := getD_memV L K (by omega)
    refine ⟨fun h => ?_, fun h => ?_⟩
    · have : L.any (fun v => v.1 == 3) = true := List.any_eq_true.2 ⟨_, hm, by simpa using h⟩
      unfold catR
      rw [if_pos this]; rfl
    · have hr := rawL_sm (hL _ hm)
      unfold Sm at hr
      refine ⟨_, c_raw _ (hL _ hm), ?_, ?_⟩
      · rw [bc_len, bs_size]; omega
      · rintro x4 rfl
        rw [bc_bs, bc_app, i64_in _ (by omega)]
        refine ⟨_, ?_, K + 1, by omega, by omega, ?_, ?_, rfl⟩
        · omega
        · rw [take_v L K (by omega), catL_snoc]
        · rw [take_v L K (by omega), List.any_append, hn]
          simpa using h
  · have e : K = L.length := by omega
    subst e
    rw [List.take_length] at hn ⊢
    unfold catR
    rw [if_neg (by rw [hn]; simp)]
    refine ⟨bc_all _, ?_⟩
    rw [bc_str]
    exact ⟨_, _, _, _, c_fstr _, rfl⟩
theorem c_open_cat (L : List V3) (hL : ∀ v ∈ L, Vs v) (hl : L.length ≤ 1000000) : FnC Tryd.prog 20 [sD wConcat, .c (.vs (vc L))] (.tup [vD (catR L).1, iD (catR L).2, bD true]) := by
  refine w20 (bs wConcat) (vc L) ?_
  simp only [mk_bs, bs_inj]
  iterate 5 refine ⟨fun h => absurd h (by decide), fun _ => ?_⟩
  exact ⟨fun _ => ⟨_, _, _, _, c_concat L hL hl, rfl⟩, fun h => absurd rfl h⟩

theorem findL_le (s t : List UInt8) (J : Nat) (hJ : J + t.length ≤ s.length) (he : (s.drop J).take t.length = t) : ∀ i, i ≤ J → (i : Int) ≤ findL s t i ∧ findL s t i ≤ J := fun i => by
  induction h : J - i using Nat.strongRecOn generalizing i with
  | _ n ih =>
    intro hi
    rw [findL, dif_pos (by omega)]
    by_cases h1 : (s.drop i).take t.length = t
    · rw [if_pos h1]; omega
    · have : i ≠ J := fun e => h1 (by rw [e]; exact he)
      rw [if_neg h1, dif_pos (by omega)]
      have := ih _ (by omega) (i + 1) rfl (by omega)
      omega

theorem sub_a (s : List UInt8) (q : Nat) (hq : q < s.length) : subV (2, 0, s) 1 (some (q : Int)) = (2, 0, s.take q) := by
  have e : subL s 1 (some (q : Int)) = s.take q := by
    unfold subL
    dsimp only
    rw [if_neg (by omega), if_neg (by omega)]
    refine (cut_same (a' := 0) (b' := q) ?_).trans (by simp)
    omega
  unfold subV
  rw [show rawL (2, 0, s) = s from rfl, e]; rfl
theorem sub_b (s : List UInt8) (q r : Nat) (hq : q < s.length) (hr : r ≤ s.length) : subV (2, 0, s) ((q : Int) + 1) (some (r : Int)) = (2, 0, (s.take (q + r)).drop q) := by
  have e : subL s ((q : Int) + 1) (some (r : Int)) = (s.take (q + r)).drop q := by
    unfold subL
    dsimp only
    rw [if_neg (by omega), if_neg (by omega)]
    refine cut_same ?_
    omega
  unfold subV
  rw [show rawL (2, 0, s) = s from rfl, e]; rfl
theorem sub_c (s : List UInt8) (q r : Nat) (hq : q < s.length) (hr : r ≤ s.length) : subV (2, 0, s) ((q : Int) + 1 + r) none = (2, 0, s.drop (q + r)) := by
  have e : subL s ((q : Int) + 1 + r) none = s.drop (q + r) := by
    unfold subL
    dsimp only
    rw [if_neg (by omega), if_neg (by omega), Int.toNat_natCast, List.take_length]
    congr 1
    omega
  unfold subV
  rw [show rawL (2, 0, s) = s from rfl, e]; rfl
theorem cut3 (s : List UInt8) (q r : Nat) : s.take q ++ ((s.take (q + r)).drop q ++ s.drop (q + r)) = s := by
  have h : s.take q ++ (s.take (q + r)).drop q = s.take (q + r) := by
    have := List.take_append_drop q (s.take (q + r))
    rwa [List.take_take, Nat.min_eq_left (by omega)] at this
  rw [← List.append_assoc, h, List.take_append_drop]

theorem walkCuts (s : List UInt8) (x1 x2 : Int) (hx1 : I64 x1) (hx2 : I64 x2) : FnC Tryd.prog 6 [sD s, iD x1, iD x2] (bD true) := by
  refine w6 (bs s) x1 x2 ⟨_, c_awake, ?_⟩
  rw [bs_size]
  refine ⟨fun _ => ⟨_, c_awake, rfl⟩, fun h => ?_⟩
  have hs : s.length ≤ 200 := by omega
  have h0 : 1 ≤ s.length := by omega
  rw [i64_in ((s.length : Int) + 1) (by omega), u64_in (s.length : Int) (by omega), u64_in ((s.length : Int) + 1) (by omega)]
  obtain ⟨q, hq, hq2⟩ : ∃ q : Nat, Int.tmod (IntKind.wrap .u64 x1) (s.length : Int) = q ∧ q < s.length := by
    have p0 : 0 ≤ IntKind.wrap .u64 x1 := by rw [IntKind.wrap_u64]; omega
    refine ⟨(Int.tmod (IntKind.wrap .u64 x1) (s.length : Int)).toNat, ?_, ?_⟩
    · have := Int.tmod_nonneg (s.length : Int) p0; omega
    · have := Int.tmod_nonneg (s.length : Int) p0
      have := Int.tmod_lt_of_pos (IntKind.wrap .u64 x1) (show 0 < (s.length : Int) by omega); omega
  obtain ⟨r, hr, hr2⟩ : ∃ r : Nat, Int.tmod (IntKind.wrap .u64 x2) ((s.length : Int) + 1) = r ∧ r ≤ s.length := by
    have p0 : 0 ≤ IntKind.wrap .u64 x2 := by rw [IntKind.wrap_u64]; omega
    refine ⟨(Int.tmod (IntKind.wrap .u64 x2) ((s.length : Int) + 1)).toNat, ?_, ?_⟩
    · have := Int.tmod_nonneg ((s.length : Int) + 1) p0; omega
    · have := Int.tmod_nonneg ((s.length : Int) + 1) p0
      have := Int.tmod_lt_of_pos (IntKind.wrap .u64 x2) (show 0 < (s.length : Int) + 1 by omega); omega
  rw [hq, hr, i64_in (q : Int) (by omega), i64_in (r : Int) (by omega), i64_in ((q : Int) + 1) (by omega), i64_in ((q : Int) + 1 - 1) (by omega), i64_in ((q : Int) + 1 + r) (by omega)]
  have hS : Vs (2, 0, s) := vs_text (by omega)
  have k1 := c_call_sub3 (2, 0, s) (1, 1, []) (1, (q : Int), []) hS (vs_int (by constructor <;> omega)) (vs_int (by constructor <;> omega)) ⟨rfl, rfl⟩
  have k2 := c_call_sub3 (2, 0, s) (1, (q : Int) + 1, []) (1, (r : Int), []) hS (vs_int (by constructor <;> omega)) (vs_int (by constructor <;> omega)) ⟨rfl, rfl⟩
  have k3 := c_call_sub2 (2, 0, s) (1, (q : Int) + 1 + r, []) hS (vs_int (by constructor <;> omega)) rfl
  rw [sub_a s q hq2] at k1
  rw [sub_b s q r hq2 hr2] at k2
  rw [sub_c s q r hq2 hr2] at k3
  have lA : (s.take q).length ≤ 4096 := by rw [List.length_take]; omega
  have lB : ((s.take (q + r)).drop q).length ≤ 4096 := by rw [List.length_drop, List.length_take]; omega
  have lC : (s.drop (q + r)).length ≤ 4096 := by rw [List.length_drop]; omega
  have lS : s.length ≤ 4096 := by omega
  have hn : wSubstr ≠ wTypeof ∧ wSubstr ≠ wQuote ∧ wSubstr ≠ wCoalesce ∧ wSubstr ≠ wIfnull ∧ wSubstr ≠ wNullif ∧ wSubstr ≠ wConcat := by decide
  have hi : wInstr ≠ wTypeof ∧ wInstr ≠ wQuote ∧ wInstr ≠ wCoalesce ∧ wInstr ≠ wIfnull ∧ wInstr ≠ wNullif ∧ wInstr ≠ wConcat := by decide
  have c1 := call_ok (op := wSubstr) (sm_of _) (by show 3 ≤ 1000000; omega) (by decide +kernel) (show knownB wSubstr 3 = true by decide +kernel) (by simp [badV, ok_text lS, ok_int]) (by simp) hn (by show (((s.take q).length : Nat) : Int) ≤ 4096; omega) k1
  have c2 := call_ok (op := wSubstr) (sm_of _) (by show 3 ≤ 1000000; omega) (by decide +kernel) (show knownB wSubstr 3 = true by decide +kernel) (by simp [badV, ok_text lS, ok_int]) (by simp) hn (by show ((((s.take (q + r)).drop q).length : Nat) : Int) ≤ 4096; omega) k2
  have c3 := call_ok (op := wSubstr) (sm_of _) (by show 2 ≤ 1000000; omega) (by decide +kernel) (show knownB wSubstr 2 = true by decide +kernel) (by simp [badV, ok_text lS, ok_int]) (by simp) hn (by show (((s.drop (q + r)).length : Nat) : Int) ≤ 4096; omega) k3
  have k4 := c_call_instr (2, 0, s) (2, 0, (s.take (q + r)).drop q) hS (vs_text lB) Iff.rfl
  rw [show rawL (2, 0, s) = s from rfl, show rawL (2, 0, (s.take (q + r)).drop q) = (s.take (q + r)).drop q from rfl] at k4
  have c4 := call_ok (op := wInstr) (sm_of _) (by show 2 ≤ 1000000; omega) (by decide +kernel) (show knownB wInstr 2 = true by decide +kernel) (by simp [badV, ok_text lS, ok_text lB]) (by simp) hi (by show ((0 : Nat) : Int) ≤ 4096; omega) k4
  have eB : (s.take (q + r)).drop q = (s.drop q).take r := by rw [List.drop_take]; congr 1; omega
  have fl := findL_le s ((s.take (q + r)).drop q) q (by rw [List.length_drop, List.length_take]; omega) (by
    rw [eB, List.length_take, List.take_eq_take_iff]; omega) 0 (by omega)
  have vL : ∀ v ∈ ([(2, 0, s.take q), (2, 0, (s.take (q + r)).drop q), (2, 0, s.drop (q + r))] : List V3), Vs v := by
    intro v hv
    simp only [List.mem_cons, List.not_mem_nil, or_false] at hv
    rcases hv with rfl | rfl | rfl
    · exact vs_text lA
    · exact vs_text lB
    · exact vs_text lC
  have eC : catR [(2, 0, s.take q), (2, 0, (s.take (q + r)).drop q), (2, 0, s.drop (q + r))] = ((2, 0, s), 0) := by
    unfold catR
    rw [if_neg (by simp)]
    simp only [catL, List.flatMap_cons, List.flatMap_nil, List.append_nil]
    rw [show rawL (2, 0, s.take q) = s.take q from rfl, show rawL (2, 0, (s.take (q + r)).drop q) = (s.take (q + r)).drop q from rfl, show rawL (2, 0, s.drop (q + r)) = s.drop (q + r) from rfl, cut3]
  have k5 := c_open_cat _ vL (by show 3 ≤ 1000000; omega)
  rw [eC] at k5
  have c5 := c_Call wConcat (sm_of _) [(2, 0, s.take q), (2, 0, (s.take (q + r)).drop q), (2, 0, s.drop (q + r))] (by show 3 ≤ 1000000; omega) (2, 0, s) 0 true nul 0
    (fun _ _ => by rw [show foldL wConcat = wConcat by decide +kernel]; exact k5) (fun _ _ h => by cases h)
  rw [callR, if_pos (by show knownB (foldL wConcat) 3 = true; decide +kernel), if_pos (by simp [badV, ok_text lA, ok_text lB, ok_text lC]), if_pos rfl, fitR, if_neg (by simp only []; omega), if_pos rfl] at c5
  refine ⟨by omega, by omega, _, _, _, c_t s, _, _, _, c_n 1, _, _, _, c_n ((q : Int) + 1 - 1), fun x13 h13 => ?_⟩
  rw [show (q : Int) + 1 - 1 = q by omega] at h13
  obtain rfl : x13 = vc [(2, 0, s), (1, 1, []), (1, (q : Int), [])] := h13
  refine ⟨_, _, _, _, c1, _, _, _, c_t s, _, _, _, c_n ((q : Int) + 1), _, _, _, c_n r, fun x27 h27 => ?_⟩
  obtain rfl : x27 = vc [(2, 0, s), (1, (q : Int) + 1, []), (1, (r : Int), [])] := h27
  refine ⟨_, _, _, _, c2, _, _, _, c_t s, _, _, _, c_n ((q : Int) + 1 + r), fun x38 h38 => ?_⟩
  obtain rfl : x38 = vc [(2, 0, s), (1, (q : Int) + 1 + r, [])] := h38
  refine ⟨_, _, _, _, c3, _, _, _, c_t s, fun x46 h46 => ?_⟩
  obtain rfl : x46 = vc [(2, 0, s), (2, 0, (s.take (q + r)).drop q)] := h46
  refine ⟨_, _, _, _, c4, fun x51 h51 => ?_⟩
  obtain rfl : x51 = vc [(2, 0, s.take q), (2, 0, (s.take (q + r)).drop q), (2, 0, s.drop (q + r))] := h51
  refine ⟨_, _, _, _, c5, _, _, _, fun _ => c_t s, ?_⟩
  have f1 : (1 : Int) ≤ findL s ((s.take (q + r)).drop q) 0 + 1 := by omega
  have f2 : findL s ((s.take (q + r)).drop q) 0 + 1 ≤ (q : Int) + 1 := by omega
  simp [bD, f1, f2]
end Go.Proofs.YtabakkdlcjpjfaaDoor
