/- Large letters, concat; Call of these; the walks of the statements about letters and cuts. Condition: texts that a machine can hold. -/
import Derived.Test.YtabakkdlcjpjfaaDoorFa
import Derived.Test.YtabakkdlcjpjfaaDoorFc
namespace Go.Proofs.YtabakkdlcjpjfaaDoor
open Go.RowKit Go.IntWalk
set_option linter.unusedSimpArgs false
set_option linter.unusedVariables false

def upp (c : UInt8) : UInt8 := if 97 ≤ c ∧ c ≤ 122 then c - 32 else c
def upL (l : List UInt8) : List UInt8 := l.map upp
/-- a text of which the first k letters are small -/
def upK (l : List UInt8) (k : Nat) : List UInt8 := upL (l.take k) ++ l.drop k
theorem upK_len (l : List UInt8) (k : Nat) : (upK l k).length = l.length := by simp [upK, upL]; omega
theorem upK_at (l : List UInt8) (k : Nat) (h : k < l.length) : (upK l k)[k]'(by rw [upK_len]; exact h) = l[k] := by
  unfold upK
  rw [List.getElem_append_right (by simp [upL]; omega)]
  simp [upL, Nat.min_eq_left (Nat.le_of_lt h)]
theorem upK_zero (l : List UInt8) : upK l 0 = l := by simp [upK, upL]
theorem upK_all (l : List UInt8) : upK l l.length = upL l := by simp [upK]
theorem upK_step (l : List UInt8) (k : Nat) (h : k < l.length) : (upK l k).set k (upp l[k]) = upK l (k + 1) := by
  unfold upK
  rw [List.set_append_right _ _ (by simp [upL]; omega)]
  have e : k - (upL (l.take k)).length = 0 := by simp [upL]; omega
  rw [e, List.drop_eq_getElem_cons h, List.set_cons_zero, List.take_succ_eq_append_getElem h]
  simp [upL]
  rw [List.take_succ_eq_append_getElem (by simpa using h)]
  simp
theorem upK_stay (l : List UInt8) (k : Nat) (h : k < l.length) (hc : upp l[k] = l[k]) : upK l k = upK l (k + 1) := by
  rw [← upK_step l k h, hc]
  have := upK_at l k h
  rw [← this, List.set_getElem_self]

theorem upp_stay (c : UInt8) (h : ¬ (97 ≤ (c.toNat : Int) ∧ (c.toNat : Int) ≤ 122)) : upp c = c := by
  unfold upp
  rw [if_neg]
  rintro ⟨h1, h2⟩
  have h1 : 97 ≤ c.toNat := h1
  have h2 : c.toNat ≤ 122 := h2
  omega
theorem upp_up (c : UInt8) (h : 97 ≤ (c.toNat : Int) ∧ (c.toNat : Int) ≤ 122) : ((upp c).toNat : Int) = (c.toNat : Int) - 32 := by
  have h1 : 97 ≤ c := by show 97 ≤ c.toNat; omega
  have h2 : c ≤ 122 := by show c.toNat ≤ 122; omega
  unfold upp
  rw [if_pos ⟨h1, h2⟩, UInt8.toNat_sub]
  simp
  omega
theorem upL_len (l : List UInt8) : (upL l).length = l.length := by simp [upL]
theorem getD_upK (l : List UInt8) (k : Nat) (h : k < l.length) : (upK l k).getD k 0 = l.getD k 0 := by
  have := upK_at l k h
  rw [List.getD_eq_getElem?_getD, List.getD_eq_getElem?_getD, List.getElem?_eq_getElem (by rw [upK_len]; exact h), this, List.getElem?_eq_getElem h]
theorem c_upper (l : List UInt8) (hs : Sz l) : FnC Tryd.prog 44 [sD l] (sD (upL l)) := by
  unfold Sz at hs
  refine w44 (bs l) ?_
  intro x1 hx1
  rw [bc_bs] at hx1
  subst hx1
  rw [bc_len]
  refine ⟨fun rows i k => 0 ≤ i ∧ i ≤ l.length ∧ rows = bc (upK l i.toNat) ∧ k = l.length - i.toNat, ⟨_, by omega, by omega, by rw [Int.toNat_zero, upK_zero], rfl⟩, ?_⟩
  rintro k rows i ⟨h0, h1, rfl, rfl⟩
  refine ⟨fun hi => ?_, fun hi => ?_⟩
  · have hk : i.toNat < l.length := by omega
    have hk2 : i < ((upK l i.toNat).length : Int) := by rw [upK_len]; omega
    rw [bc_at _ _ h0 hk2, getD_upK l _ hk, i64_in (i + 1) (by omega)]
    refine ⟨by omega, bc_kind _ _ h0 hk2, fun hc => ?_, fun hc => ?_⟩
    · rw [bc_len, upK_len]
      refine ⟨by omega, by omega, fun x4 hx4 => ?_⟩
      rw [bc_set (b := upp (l.getD i.toNat 0)) (hz := by rw [u8_in (((l.getD i.toNat 0).toNat : Int) - 97) (by omega), u8_in _ (by omega), upp_up _ hc]; omega), getD_at l _ hk, upK_step l _ hk] at hx4
      subst hx4
      refine ⟨_, ?_, by omega, by omega, ?_, rfl⟩
      · omega
      · rw [show (i + 1).toNat = i.toNat + 1 by omega]
    · refine ⟨_, ?_, by omega, by omega, ?_, rfl⟩
      · omega
      · rw [show (i + 1).toNat = i.toNat + 1 by omega, upK_stay l _ hk (by rw [← getD_at l _ hk]; exact upp_stay _ hc)]
  · have e : i.toNat = l.length := by omega
    rw [e, upK_all, bc_len, upL_len, Int.toNat_natCast, bc_take, bc_str, ← upL_len l, List.take_length]
    exact ⟨by omega, bc_all _, rfl⟩

theorem low_upp (c : UInt8) : low (upp c) = low c := by
  unfold low upp
  by_cases h : 97 ≤ c ∧ c ≤ 122
  · rw [if_pos h, if_neg (show ¬ (65 ≤ c ∧ c ≤ 90) from fun h2 => by
      have h3 : c.toNat ≤ 90 := h2.2
      have h4 : 97 ≤ c.toNat := h.1
      omega)]
    have h1 : 97 ≤ c.toNat := h.1
    have h2 : c.toNat ≤ 122 := h.2
    have e : (c - 32).toNat = c.toNat - 32 := by rw [UInt8.toNat_sub]; simp; omega
    rw [if_pos (show 65 ≤ c - 32 ∧ c - 32 ≤ 90 from ⟨by show 65 ≤ (c - 32).toNat; omega, by show (c - 32).toNat ≤ 90; omega⟩)]
    apply UInt8.toNat_inj.1
    rw [UInt8.toNat_add, e]; simp; omega
  · rw [if_neg h]
theorem fold_up (l : List UInt8) : foldL (upL l) = foldL l := by
  unfold foldL upL
  rw [List.map_map]
  exact List.map_congr_left fun c _ => low_upp c
theorem likB_up (s p : List UInt8) : likB (upL s) p = likB s p := by unfold likB; rw [fold_up]
theorem likB_up2 (s p : List UInt8) : likB s (upL p) = likB s p := by unfold likB; rw [fold_up]

theorem c_call_up (v : V3) (hv : Vs v) (h : v.1 = 2) : FnC Tryd.prog 21 [sD wUpper, .c (.vs (vc [v]))] (.tup [vD (2, 0, upL (rawL v)), iD 0]) := by
  refine w21 (bs wUpper) (vc [v]) ⟨by simp [vc_len], vc_sz _, vc_k _ _ (by omega) (by simp), ?_⟩
  rw [vc_vD _ (0 : Int) (by omega) (by simp), vc_0 _ (0 : Int) (by omega) (by simp)]
  refine ⟨_, c_raw v hv, ?_⟩
  have hc := c_upper (rawL v) (rawL_sm hv).sz
  have h3 : ¬ v.1 = 3 := by omega
  simp only [mk_bs, bs_inj]
  iterate 8 refine ⟨fun h => absurd h (by decide), fun _ => ?_⟩
  exact ⟨fun h => absurd h h3, fun _ => ⟨fun _ => ⟨_, hc, _, _, _, _, c_fstr _, rfl⟩, fun h => absurd rfl h⟩⟩
theorem c_call_low (v : V3) (hv : Vs v) (h : v.1 = 2) : FnC Tryd.prog 21 [sD wLower, .c (.vs (vc [v]))] (.tup [vD (2, 0, foldL (rawL v)), iD 0]) := by
  refine w21 (bs wLower) (vc [v]) ⟨by simp [vc_len], vc_sz _, vc_k _ _ (by omega) (by simp), ?_⟩
  rw [vc_vD _ (0 : Int) (by omega) (by simp), vc_0 _ (0 : Int) (by omega) (by simp)]
  refine ⟨_, c_raw v hv, ?_⟩
  have hc := c_tFold (rawL v) (rawL_sm hv).sz
  have h3 : ¬ v.1 = 3 := by omega
  simp only [mk_bs, bs_inj]
  iterate 8 refine ⟨fun h => absurd h (by decide), fun _ => ?_⟩
  exact ⟨fun h => absurd h h3, fun _ => ⟨fun h => absurd h (by decide), fun _ => ⟨fun _ => ⟨_, hc, _, _, _, _, c_fstr _, rfl⟩, fun h => absurd rfl h⟩⟩⟩
theorem ok_text {s : List UInt8} (h : s.length ≤ 4096) : checkV (2, 0, s) = 0 := by
  unfold checkV
  rw [if_neg (by simp), if_neg (by simp only []; omega)]
theorem ok_int (n : Int) : checkV (1, n, []) = 0 := by
  unfold checkV
  rw [if_neg (by simp), if_neg (by simp)]
theorem vs_text {s : List UInt8} (h : s.length ≤ 4096) : Vs (2, 0, s) := ⟨⟨by show -9223372036854775808 ≤ (2 : Int); omega, by show (2 : Int) ≤ 9223372036854775807; omega⟩, ⟨by show -9223372036854775808 ≤ (0 : Int); omega, by show (0 : Int) ≤ 9223372036854775807; omega⟩, by show s.length ≤ 1000000; omega⟩
theorem vs_int {n : Int} (h : I64 n) : Vs (1, n, []) := ⟨⟨by show -9223372036854775808 ≤ (1 : Int); omega, by show (1 : Int) ≤ 9223372036854775807; omega⟩, h, by show 0 ≤ 1000000; omega⟩
theorem call_up {s : List UInt8} (h : s.length ≤ 4096) : FnC Tryd.prog 9 [sD wUpper, .c (.vs (vc [(2, 0, s)]))] (.tup [vD (2, 0, upL s), iD 0]) :=
  call_ok (sm_of _) (by show 1 ≤ 1000000; omega) (f := wUpper) (by decide +kernel) (show knownB wUpper 1 = true by decide +kernel) (by simp [badV, ok_text h]) (by simp) (by decide) (by show (((upL s).length : Nat) : Int) ≤ 4096; rw [upL_len]; omega) (c_call_up (2, 0, s) (vs_text h) rfl)
theorem call_low {s : List UInt8} (h : s.length ≤ 4096) : FnC Tryd.prog 9 [sD wLower, .c (.vs (vc [(2, 0, s)]))] (.tup [vD (2, 0, foldL s), iD 0]) :=
  call_ok (sm_of _) (by show 1 ≤ 1000000; omega) (f := wLower) (by decide +kernel) (show knownB wLower 1 = true by decide +kernel) (by simp [badV, ok_text h]) (by simp) (by decide) (by show (((foldL s).length : Nat) : Int) ≤ 4096; rw [foldL_len]; omega) (c_call_low (2, 0, s) (vs_text h) rfl)

theorem walkLetters (s p : List UInt8) : FnC Tryd.prog 5 [sD s, sD p] (bD true) := by
  refine w5 (bs s) (bs p) ⟨_, c_awake, ?_⟩
  rw [bs_size, bs_size]
  refine ⟨fun _ => ⟨_, c_awake, rfl⟩, fun h => ?_⟩
  have hs : s.length ≤ 200 := by omega
  have hp : p.length ≤ 50 := by omega
  have hs2 : Sm s := by unfold Sm; omega
  have hp2 : Sm p := by unfold Sm; omega
  have hu : (upL s).length ≤ 200 := by rw [upL_len]; exact hs
  have hu2 : Sm (upL s) := by unfold Sm; omega
  have c1 := call_up (s := s) (by omega)
  have c2 := call_low (s := upL s) (by omega)
  have c3 := call_low (s := s) (by omega)
  rw [fold_up] at c2
  have k1 := c_Like (upL s) p hu2 hp2
  have k2 := c_Like s p hs2 hp2
  have k3 := c_Like s (upL s) hs2 hu2
  have k4 := c_rLike s s hs2 hs2
  rw [likB_up] at k1
  rw [likB_up2] at k3
  refine ⟨_, _, _, c_t s, fun x6 h6 => ?_⟩
  obtain rfl : x6 = vc [(2, 0, s)] := h6
  refine ⟨_, _, _, _, c1, fun x11 h11 => ?_⟩
  obtain rfl : x11 = vc [(2, 0, upL s)] := h11
  refine ⟨_, _, _, _, c2, _, _, _, c_t s, fun x19 h19 => ?_⟩
  obtain rfl : x19 = vc [(2, 0, s)] := h19
  refine ⟨_, _, _, _, c3, _, fun _ => k1, _, fun _ => k2, _, fun _ => k3, _, fun _ => k4, ?_⟩
  simp [bD, bs_size, upL_len]
end Go.Proofs.YtabakkdlcjpjfaaDoor
