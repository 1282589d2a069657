/- Which functions there are; what Call of package fn makes of what open and call tell. Conditions: texts of at most a million bytes, numbers of 64 bits. -/
import Derived.Test.YtabakkdlcjpjfaaDoorSu
namespace Go.Proofs.YtabakkdlcjpjfaaDoor
open Go.RowKit Go.IntWalk
set_option linter.unusedSimpArgs false
set_option linter.unusedVariables false

def wAbs : List UInt8 := [97, 98, 115]
def wSign : List UInt8 := [115, 105, 103, 110]
def wLength : List UInt8 := [108, 101, 110, 103, 116, 104]
def wUpper : List UInt8 := [117, 112, 112, 101, 114]
def wLower : List UInt8 := [108, 111, 119, 101, 114]
def wTrim : List UInt8 := [116, 114, 105, 109]
def wLtrim : List UInt8 := [108, 116, 114, 105, 109]
def wRtrim : List UInt8 := [114, 116, 114, 105, 109]
def wHex : List UInt8 := [104, 101, 120]
def wQuote : List UInt8 := [113, 117, 111, 116, 101]
def wTypeof : List UInt8 := [116, 121, 112, 101, 111, 102]
def wInstr : List UInt8 := [105, 110, 115, 116, 114]
def wIfnull : List UInt8 := [105, 102, 110, 117, 108, 108]
def wNullif : List UInt8 := [110, 117, 108, 108, 105, 102]
def wLike : List UInt8 := [108, 105, 107, 101]
def wReplace : List UInt8 := [114, 101, 112, 108, 97, 99, 101]
def wSubstr : List UInt8 := [115, 117, 98, 115, 116, 114]
def wCoalesce : List UInt8 := [99, 111, 97, 108, 101, 115, 99, 101]
def wConcat : List UInt8 := [99, 111, 110, 99, 97, 116]
def knownB (f : List UInt8) (n : Int) : Bool :=
  if f = wAbs ∨ f = wSign ∨ f = wLength ∨ f = wUpper ∨ f = wLower ∨ f = wTrim ∨ f = wLtrim ∨ f = wRtrim ∨ f = wHex ∨ f = wQuote ∨ f = wTypeof then n == 1
  else if f = wInstr ∨ f = wIfnull ∨ f = wNullif ∨ f = wLike then n == 2
  else if f = wReplace then n == 3
  else if f = wSubstr then (n == 2 || n == 3)
  else if f = wCoalesce ∨ f = wConcat then decide (1 ≤ n)
  else false
theorem c_Known (op : List UInt8) (n : Int) (hop : Sm op) : FnC Tryd.prog 12 [sD op, iD n] (bD (knownB (foldL op) n)) := by
  refine w12 (bs op) n ⟨bs (foldL op), c_tFold op hop.sz, ?_⟩
  generalize foldL op = f
  simp only [mk_bs, bs_inj]
  unfold knownB
  simp only [wAbs, wSign, wLength, wUpper, wLower, wTrim, wLtrim, wRtrim, wHex, wQuote, wTypeof, wInstr, wIfnull, wNullif, wLike, wReplace, wSubstr, wCoalesce, wConcat]
  (repeat' (first | with_reducible refine ⟨fun _ => ?_, fun _ => ?_⟩ | fail))
  all_goals first
    | (rename_i h; subst h; rfl)
    | (rename_i h; subst h; by_cases h2 : n = 2 <;> simp [bD, h2]; done)
    | (simp [bD, *]; done)
    | fail

def badV : List V3 → Int
  | [] => 0
  | v :: L => if checkV v = 0 then badV L else checkV v
def fitR (v : V3) (e : Int) : DV := if e = 0 ∧ 4096 < (v.2.2.length : Int) then .tup [vD nul, iD 3] else if e = 0 then .tup [vD v, iD 0] else .tup [vD nul, iD e]
def callR (op : List UInt8) (L : List V3) (o : V3) (oe : Int) (met : Bool) (r : V3) (re : Int) : DV :=
  if knownB (foldL op) L.length = true then
    (if badV L = 0 then (if met = true then fitR o oe else if L.any (fun v => v.1 == 0) = true then .tup [vD nul, iD 0] else fitR r re) else .tup [vD nul, iD (badV L)])
  else .tup [vD nul, iD 25]
theorem drop_v (L : List V3) (K : Nat) (h : K < L.length) : L.drop K = L.getD K nul :: L.drop (K + 1) := by
  rw [List.drop_eq_getElem_cons h]
  congr 1
  simp [List.getD_eq_getElem?_getD, h]
theorem take_v (L : List V3) (K : Nat) (h : K < L.length) : L.take (K + 1) = L.take K ++ [L.getD K nul] := by
  rw [List.take_add_one]
  congr 1
  simp [List.getD_eq_getElem?_getD, h]
theorem c_Call (op : List UInt8) (hop : Sm op) (L : List V3) (hl : L.length ≤ 1000000) (o : V3) (oe : Int) (met : Bool) (r : V3) (re : Int)
    (h1 : knownB (foldL op) L.length = true → badV L = 0 → FnC Tryd.prog 20 [sD (foldL op), .c (.vs (vc L))] (.tup [vD o, iD oe, bD met]))
    (h2 : knownB (foldL op) L.length = true → badV L = 0 → met = false → L.any (fun v => v.1 == 0) = false → FnC Tryd.prog 21 [sD (foldL op), .c (.vs (vc L))] (.tup [vD r, iD re])) :
    FnC Tryd.prog 9 [sD op, .c (.vs (vc L))] (callR op L o oe met r re) := by
  refine w9 (bs op) (vc L) ?_
  rw [vc_len]
  refine ⟨_, c_Known op L.length hop, ?_⟩
  unfold callR
  refine ⟨fun hk => by rw [if_neg hk]; rfl, fun hk => ?_⟩
  have hk := Classical.not_not.1 hk
  rw [if_pos hk]
  refine ⟨fun nl i m => ∃ K : Nat, i = K ∧ K ≤ L.length ∧ nl = (L.take K).any (fun v => v.1 == 0) ∧ badV L = badV (L.drop K) ∧ m = L.length - K, ⟨_, 0, rfl, by omega, by simp, rfl, rfl⟩, ?_⟩
  rintro m nl i ⟨K, rfl, hK, rfl, hb, rfl⟩
  refine ⟨fun hi => ⟨by omega, vc_sz _, vc_k _ _ (by omega) (by omega), ?_⟩, fun hi => ?_⟩
  · rw [vc_vD _ _ (by omega) (by omega), Int.toNat_natCast, vc_0 _ _ (by omega) (by omega), Int.toNat_natCast]
    have hd := drop_v L K (by omega)
    refine ⟨_, c_vCheck _, fun h => ?_, fun h => ?_⟩
    · have e : badV L = checkV (L.getD K nul) := by rw [hb, hd, badV, if_neg h]
      rw [e, if_neg h]; rfl
    · refine ⟨_, ?_, K + 1, by rw [i64_in _ (by omega)]; omega, by omega, ?_, ?_, rfl⟩
      · omega
      · rw [take_v L K (by omega), List.any_append]
        cases (L.take K).any (fun v => v.1 == 0) <;> simp
      · rw [hb, hd, badV, if_pos (Classical.not_not.1 h)]
  · have e : K = L.length := by omega
    subst e
    rw [List.drop_length] at hb
    have hb : badV L = 0 := hb
    rw [if_pos hb, List.take_length]
    refine ⟨_, c_tFold op hop.sz, _, _, _, _, _, h1 hk hb, fun hm => ⟨fun hn => ?_, fun hn => ?_⟩, fun hm => ?_⟩
    · rw [if_neg hm, if_pos hn]; rfl
    · rw [if_neg hm, if_neg hn]
      refine ⟨_, _, _, _, h2 hk hb (Bool.eq_false_iff.2 hm) (Bool.eq_false_iff.2 hn), fun ha => ?_, fun ha => ⟨fun hz => ?_, fun hz => ?_⟩⟩
      · rw [bs_size] at ha; unfold fitR; rw [if_pos ha] <;> rfl
      · rw [bs_size] at ha; unfold fitR; rw [if_neg ha, if_neg hz] <;> rfl
      · rw [bs_size] at ha; unfold fitR; rw [if_neg ha, if_pos (Classical.not_not.1 hz)] <;> rfl
    · rw [if_pos (Classical.not_not.1 hm)]
      refine ⟨fun ha => ?_, fun ha => ⟨fun hz => ?_, fun hz => ?_⟩⟩
      · rw [bs_size] at ha; unfold fitR; rw [if_pos ha] <;> rfl
      · rw [bs_size] at ha; unfold fitR; rw [if_neg ha, if_neg hz] <;> rfl
      · rw [bs_size] at ha; unfold fitR; rw [if_neg ha, if_pos (Classical.not_not.1 hz)] <;> rfl

/-- open of what it does not know -/
theorem c_open_not (f : List UInt8) (L : List V3) (hf : f ≠ wTypeof ∧ f ≠ wQuote ∧ f ≠ wCoalesce ∧ f ≠ wIfnull ∧ f ≠ wNullif ∧ f ≠ wConcat) : FnC Tryd.prog 20 [sD f, .c (.vs (vc L))] (.tup [vD nul, iD 0, bD false]) := by
  refine w20 (bs f) (vc L) ?_
  simp only [mk_bs, bs_inj]
  obtain ⟨h1, h2, h3, h4, h5, h6⟩ := hf
  exact ⟨fun h => absurd h h1, fun _ => ⟨fun h => absurd h h2, fun _ => ⟨fun h => absurd h h3, fun _ => ⟨fun h => absurd h h4, fun _ => ⟨fun h => absurd h h5, fun _ => ⟨fun h => absurd h h6, fun _ => by first | rfl | trivial⟩⟩⟩⟩⟩⟩
/-- call, of substr and instr -/
theorem c_call_sub2 (v a : V3) (hv : Vs v) (ha : Vs a) (h1 : a.1 = 1) : FnC Tryd.prog 21 [sD wSubstr, .c (.vs (vc [v, a]))] (.tup [vD (subV v a.2.1 none), iD 0]) := by
  refine w21 (bs wSubstr) (vc [v, a]) ⟨by simp [vc_len], vc_sz _, vc_k _ _ (by omega) (by simp), ?_⟩
  rw [vc_vD _ _ (by omega) (by simp)]
  refine ⟨_, c_raw v hv, ?_⟩
  have hc := c_substr2 v a hv ha
  rw [if_pos h1] at hc
  simp only [mk_bs, bs_inj]
  exact ⟨fun h => absurd h (by decide), fun _ => ⟨fun h => absurd h (by decide), fun _ => ⟨fun h => absurd h (by decide), fun _ => ⟨fun h => absurd h (by decide), fun _ => ⟨fun h => absurd h (by decide), fun _ => ⟨fun h => absurd h (by decide), fun _ => ⟨fun h => absurd h (by decide), fun _ => ⟨fun _ => ⟨_, _, _, _, hc, rfl⟩, fun h => absurd rfl h⟩⟩⟩⟩⟩⟩⟩⟩
theorem c_call_sub3 (v a b : V3) (hv : Vs v) (ha : Vs a) (hb : Vs b) (h1 : a.1 = 1 ∧ b.1 = 1) : FnC Tryd.prog 21 [sD wSubstr, .c (.vs (vc [v, a, b]))] (.tup [vD (subV v a.2.1 (some b.2.1)), iD 0]) := by
  refine w21 (bs wSubstr) (vc [v, a, b]) ⟨by simp [vc_len], vc_sz _, vc_k _ _ (by omega) (by simp), ?_⟩
  rw [vc_vD _ _ (by omega) (by simp)]
  refine ⟨_, c_raw v hv, ?_⟩
  have hc := c_substr3 v a b hv ha hb
  rw [if_pos h1] at hc
  simp only [mk_bs, bs_inj]
  exact ⟨fun h => absurd h (by decide), fun _ => ⟨fun h => absurd h (by decide), fun _ => ⟨fun h => absurd h (by decide), fun _ => ⟨fun h => absurd h (by decide), fun _ => ⟨fun h => absurd h (by decide), fun _ => ⟨fun h => absurd h (by decide), fun _ => ⟨fun h => absurd h (by decide), fun _ => ⟨fun _ => ⟨_, _, _, _, hc, rfl⟩, fun h => absurd rfl h⟩⟩⟩⟩⟩⟩⟩⟩
theorem c_call_instr (v a : V3) (hv : Vs v) (ha : Vs a) (h1 : (v.1 = 3) ↔ (a.1 = 3)) : FnC Tryd.prog 21 [sD wInstr, .c (.vs (vc [v, a]))] (.tup [vD (1, findL (rawL v) (rawL a) 0 + 1, []), iD 0]) := by
  refine w21 (bs wInstr) (vc [v, a]) ⟨by simp [vc_len], vc_sz _, vc_k _ _ (by omega) (by simp), ?_⟩
  rw [vc_vD _ _ (by omega) (by simp), vc_vD _ (1 : Int) (by omega) (by simp)]
  refine ⟨_, c_raw v hv, ?_⟩
  have hc := c_instr v a hv ha
  rw [instrR, if_pos h1] at hc
  simp only [mk_bs, bs_inj]
  exact ⟨fun h => absurd h (by decide), fun _ => ⟨fun h => absurd h (by decide), fun _ => ⟨fun h => absurd h (by decide), fun _ => ⟨fun h => absurd h (by decide), fun _ => ⟨fun _ => ⟨by simp [vc_len], vc_sz _, vc_k _ _ (by omega) (by simp), _, _, _, _, hc, rfl⟩, fun h => absurd rfl h⟩⟩⟩⟩⟩
theorem c_t (s : List UInt8) : FnC Tryd.prog 16 [sD s] (vD (2, 0, s)) := by
  refine w16 (bs s) ?_
  (try simp only [mk_bs, bs_inj, bs_size, bs_toList, bs_append, byteAt_bs])
  (repeat' (first | with_reducible refine ⟨fun _ => ?_, fun _ => ?_⟩ | fail))
  all_goals (rfl)
theorem c_n (n : Int) : FnC Tryd.prog 17 [iD n] (vD (1, n, [])) := by
  refine w17 n ?_
  (try simp only [mk_bs, bs_inj, bs_size, bs_toList, bs_append, byteAt_bs])
  (repeat' (first | with_reducible refine ⟨fun _ => ?_, fun _ => ?_⟩ | fail))
  all_goals (rfl)
end Go.Proofs.YtabakkdlcjpjfaaDoor
