/- Which functions there are; what Call of package fn makes of what open and call tell. Conditions: texts of at most a million bytes, numbers of 64 bits. The chapter's examples hold; the walk of the statement about patterns. Condition: texts that a machine can hold. Large letters, concat; Call of these; the walks of the statements about letters and cuts. Condition: texts that a machine can hold. concat; the walk of the statement about cuts. Condition: texts that a machine can hold. From the given reading of an argument to closed data: slices of elements that read as closed data. No condition. From the given reading of a []Val argument to rows of values. No condition. What open of package fn tells of any values. Conditions: texts of at most a million bytes, numbers of 64 bits. What the functions that call of package fn calls compute. Conditions: texts of at most a million bytes, numbers of 64 bits. What call of package fn tells of any values that may be and are not NULL. Conditions: texts of at most a million bytes, numbers of 64 bits. What replace of package fn computes. Conditions: texts of at most a million bytes, numbers of 64 bits. What the document's functions of one argument tell. Conditions: texts of at most a million bytes, numbers of 64 bits. What the document's functions of one argument, and concat, tell. Conditions: texts of at most a million bytes, numbers of 64 bits. What the document's functions of several arguments tell. Conditions: texts of at most a million bytes, numbers of 64 bits. What the document's functions of several arguments tell, all of them. Conditions: texts of at most a million bytes, numbers of 64 bits. Call of package fn and the document's Call tell the same, of any values. Conditions: texts of at most a million bytes, numbers of 64 bits. Call of package fn and the document's Call tell the same, of any values: the walks. Conditions: texts of at most a million bytes, numbers of 64 bits. The walk of the statement about Call, of any function's name and any values. Condition: texts and rows that a machine can hold. -/
import Derived.Test.YtabakkdlcjpjfaaDoorSu
import Derived.Test.YtabakkdlcjpjfaaDoorFr
import Derived.Deep.Slices
namespace Go.Proofs.YtabakkdlcjpjfaaDoor
open Go.RowKit Go.IntWalk
set_option linter.unusedSimpArgs false
set_option linter.unusedVariables false

def wAbs : List UInt8 := [97, 98, 115]
def wSign : List UInt8 := [115, 105, 103, 110]
def wLength : List UInt8 := [108, 101, 110, 103, 116, 104]
def wUpper : List UInt8 := [117, 112, 112, 101, 114]
def wLower : List UInt8 := [108, 111, 119, 101, 114]
def wTrim : List UInt8 := [116, 114, 105, 109]
def wLtrim : List UInt8 := [108, 116, 114, 105, 109]
def wRtrim : List UInt8 := [114, 116, 114, 105, 109]
def wHex : List UInt8 := [104, 101, 120]
def wQuote : List UInt8 := [113, 117, 111, 116, 101]
def wTypeof : List UInt8 := [116, 121, 112, 101, 111, 102]
def wInstr : List UInt8 := [105, 110, 115, 116, 114]
def wIfnull : List UInt8 := [105, 102, 110, 117, 108, 108]
def wNullif : List UInt8 := [110, 117, 108, 108, 105, 102]
def wLike : List UInt8 := [108, 105, 107, 101]
def wReplace : List UInt8 := [114, 101, 112, 108, 97, 99, 101]
def wSubstr : List UInt8 := [115, 117, 98, 115, 116, 114]
def wCoalesce : List UInt8 := [99, 111, 97, 108, 101, 115, 99, 101]
def wConcat : List UInt8 := [99, 111, 110, 99, 97, 116]
def knownB (f : List UInt8) (n : Int) : Bool :=
  if f = wAbs ∨ f = wSign ∨ f = wLength ∨ f = wUpper ∨ f = wLower ∨ f = wTrim ∨ f = wLtrim ∨ f = wRtrim ∨ f = wHex ∨ f = wQuote ∨ f = wTypeof then n == 1
  else if f = wInstr ∨ f = wIfnull ∨ f = wNullif ∨ f = wLike then n == 2
  else if f = wReplace then n == 3
  else if f = wSubstr then (n == 2 || n == 3)
  else if f = wCoalesce ∨ f = wConcat then decide (1 ≤ n)
  else false
theorem c_Known (op : List UInt8) (n : Int) (hop : Sm op) : FnC Tryd.prog 12 [sD op, iD n] (bD (knownB (foldL op) n)) := by
  refine w12 (bs op) n ⟨bs (foldL op), c_tFold op hop.sz, ?_⟩
  generalize foldL op = f
  simp only [mk_bs, bs_inj]
  unfold knownB
  simp only [wAbs, wSign, wLength, wUpper, wLower, wTrim, wLtrim, wRtrim, wHex, wQuote, wTypeof, wInstr, wIfnull, wNullif, wLike, wReplace, wSubstr, wCoalesce, wConcat]
  (repeat' (first | with_reducible refine ⟨fun _ => ?_, fun _ => ?_⟩ | fail))
  all_goals first
    | (rename_i h; subst h; rfl)
    | (rename_i h; subst h; by_cases h2 : n = 2 <;> simp [bD, h2]; done)
    | (simp [bD, *]; done)
    | fail

def badV : List V3 → Int
  | [] => 0
  | v :: L => if checkV v = 0 then badV L else checkV v
def fitR (v : V3) (e : Int) : DV := if e = 0 ∧ 4096 < (v.2.2.length : Int) then .tup [vD nul, iD 3] else if e = 0 then .tup [vD v, iD 0] else .tup [vD nul, iD e]
def callR (op : List UInt8) (L : List V3) (o : V3) (oe : Int) (met : Bool) (r : V3) (re : Int) : DV :=
  if knownB (foldL op) L.length = true then
    (if badV L = 0 then (if met = true then fitR o oe else if L.any (fun v => v.1 == 0) = true then .tup [vD nul, iD 0] else fitR r re) else .tup [vD nul, iD (badV L)])
  else .tup [vD nul, iD 25]
theorem drop_v (L : List V3) (K : Nat) (h : K < L.length) : L.drop K = L.getD K nul :: L.drop (K + 1) := by
  rw [List.drop_eq_getElem_cons h]
  congr 1
  simp [List.getD_eq_getElem?_getD, h]
theorem take_v (L : List V3) (K : Nat) (h : K < L.length) : L.take (K + 1) = L.take K ++ [L.getD K nul] := by
  rw [List.take_add_one]
  congr 1
  simp [List.getD_eq_getElem?_getD, h]
theorem c_Call (op : List UInt8) (hop : Sm op) (L : List V3) (hl : L.length ≤ 1000000) (o : V3) (oe : Int) (met : Bool) (r : V3) (re : Int)
    (h1 : knownB (foldL op) L.length = true → badV L = 0 → FnC Tryd.prog 20 [sD (foldL op), .c (.vs (vc L))] (.tup [vD o, iD oe, bD met]))
    (h2 : knownB (foldL op) L.length = true → badV L = 0 → met = false → L.any (fun v => v.1 == 0) = false → FnC Tryd.prog 21 [sD (foldL op), .c (.vs (vc L))] (.tup [vD r, iD re])) :
    FnC Tryd.prog 9 [sD op, .c (.vs (vc L))] (callR op L o oe met r re) := by
  refine w9 (bs op) (vc L) ?_
  rw [vc_len]
  refine ⟨_, c_Known op L.length hop, ?_⟩
  unfold callR
  refine ⟨fun hk => by rw [if_neg hk]; rfl, fun hk => ?_⟩
  have hk := Classical.not_not.1 hk
  rw [if_pos hk]
  refine ⟨fun nl i m => ∃ K : Nat, i = K ∧ K ≤ L.length ∧ nl = (L.take K).any (fun v => v.1 == 0) ∧ badV L = badV (L.drop K) ∧ m = L.length - K, ⟨_, 0, rfl, by omega, by simp, rfl, rfl⟩, ?_⟩
  rintro m nl i ⟨K, rfl, hK, rfl, hb, rfl⟩
  refine ⟨fun hi => ⟨by omega, vc_sz _, vc_k _ _ (by omega) (by omega), ?_⟩, fun hi => ?_⟩
  · rw [vc_vD _ _ (by omega) (by omega), Int.toNat_natCast, vc_0 _ _ (by omega) (by omega), Int.toNat_natCast]
    have hd := drop_v L K (by omega)
    refine ⟨_, c_vCheck _, fun h => ?_, fun h => ?_⟩
    · have e : badV L = checkV (L.getD K nul) := by rw [hb, hd, badV, if_neg h]
      rw [e, if_neg h]; rfl
    · refine ⟨_, ?_, K + 1, by rw [i64_in _ (by omega)]; omega, by omega, ?_, ?_, rfl⟩
      · omega
      · rw [take_v L K (by omega), List.any_append]
        cases (L.take K).any (fun v => v.1 == 0) <;> simp
      · rw [hb, hd, badV, if_pos (Classical.not_not.1 h)]
  · have e : K = L.length := by omega
    subst e
    rw [List.drop_length] at hb
    have hb : badV L = 0 := hb
    rw [if_pos hb, List.take_length]
    refine ⟨_, c_tFold op hop.sz, _, _, _, _, _, h1 hk hb, fun hm => ⟨fun hn => ?_, fun hn => ?_⟩, fun hm => ?_⟩
    · rw [if_neg hm, if_pos hn]; rfl
    · rw [if_neg hm, if_neg hn]
      refine ⟨_, _, _, _, h2 hk hb (Bool.eq_false_iff.2 hm) (Bool.eq_false_iff.2 hn), fun ha => ?_, fun ha => ⟨fun hz => ?_, fun hz => ?_⟩⟩
      · rw [bs_size] at ha; unfold fitR; rw [if_pos ha] <;> rfl
      · rw [bs_size] at ha; unfold fitR; rw [if_neg ha, if_neg hz] <;> rfl
      · rw [bs_size] at ha; unfold fitR; rw [if_neg ha, if_pos (Classical.not_not.1 hz)] <;> rfl
    · rw [if_pos (Classical.not_not.1 hm)]
      refine ⟨fun ha => ?_, fun ha => ⟨fun hz => ?_, fun hz => ?_⟩⟩
      · rw [bs_size] at ha; unfold fitR; rw [if_pos ha] <;> rfl
      · rw [bs_size] at ha; unfold fitR; rw [if_neg ha, if_neg hz] <;> rfl
      · rw [bs_size] at ha; unfold fitR; rw [if_neg ha, if_pos (Classical.not_not.1 hz)] <;> rfl

/-- open of what it does not know -/
theorem c_open_not (f : List UInt8) (L : List V3) (hf : f ≠ wTypeof ∧ f ≠ wQuote ∧ f ≠ wCoalesce ∧ f ≠ wIfnull ∧ f ≠ wNullif ∧ f ≠ wConcat) : FnC Tryd.prog 20 [sD f, .c (.vs (vc L))] (.tup [vD nul, iD 0, bD false]) := by
  refine w20 (bs f) (vc L) ?_
  simp only [mk_bs, bs_inj]
  obtain ⟨h1, h2, h3, h4, h5, h6⟩ := hf
  exact ⟨fun h => absurd h h1, fun _ => ⟨fun h => absurd h h2, fun _ => ⟨fun h => absurd h h3, fun _ => ⟨fun h => absurd h h4, fun _ => ⟨fun h => absurd h h5, fun _ => ⟨fun h => absurd h h6, fun _ => by first | rfl | trivial⟩⟩⟩⟩⟩⟩
/-- call, of substr and instr -/
theorem c_call_sub2 (v a : V3) (hv : Vs v) (ha : Vs a) (h1 : a.1 = 1) : FnC Tryd.prog 21 [sD wSubstr, .c (.vs (vc [v, a]))] (.tup [vD (subV v a.2.1 none), iD 0]) := by
  refine w21 (bs wSubstr) (vc [v, a]) ⟨by simp [vc_len], vc_sz _, vc_k _ _ (by omega) (by simp), ?_⟩
  rw [vc_vD _ _ (by omega) (by simp)]
  refine ⟨_, c_raw v hv, ?_⟩
  have hc := c_substr2 v a hv ha
  rw [if_pos h1] at hc
  simp only [mk_bs, bs_inj]
  exact ⟨fun h => absurd h (by decide), fun _ => ⟨fun h => absurd h (by decide), fun _ => ⟨fun h => absurd h (by decide), fun _ => ⟨fun h => absurd h (by decide), fun _ => ⟨fun h => absurd h (by decide), fun _ => ⟨fun h => absurd h (by decide), fun _ => ⟨fun h => absurd h (by decide), fun _ => ⟨fun _ => ⟨_, _, _, _, hc, rfl⟩, fun h => absurd rfl h⟩⟩⟩⟩⟩⟩⟩⟩
theorem c_call_sub3 (v a b : V3) (hv : Vs v) (ha : Vs a) (hb : Vs b) (h1 : a.1 = 1 ∧ b.1 = 1) : FnC Tryd.prog 21 [sD wSubstr, .c (.vs (vc [v, a, b]))] (.tup [vD (subV v a.2.1 (some b.2.1)), iD 0]) := by
  refine w21 (bs wSubstr) (vc [v, a, b]) ⟨by simp [vc_len], vc_sz _, vc_k _ _ (by omega) (by simp), ?_⟩
  rw [vc_vD _ _ (by omega) (by simp)]
  refine ⟨_, c_raw v hv, ?_⟩
  have hc := c_substr3 v a b hv ha hb
  rw [if_pos h1] at hc
  simp only [mk_bs, bs_inj]
  exact ⟨fun h => absurd h (by decide), fun _ => ⟨fun h => absurd h (by decide), fun _ => ⟨fun h => absurd h (by decide), fun _ => ⟨fun h => absurd h (by decide), fun _ => ⟨fun h => absurd h (by decide), fun _ => ⟨fun h => absurd h (by decide), fun _ => ⟨fun h => absurd h (by decide), fun _ => ⟨fun _ => ⟨_, _, _, _, hc, rfl⟩, fun h => absurd rfl h⟩⟩⟩⟩⟩⟩⟩⟩
theorem c_call_instr (v a : V3) (hv : Vs v) (ha : Vs a) (h1 : (v.1 = 3) ↔ (a.1 = 3)) : FnC Tryd.prog 21 [sD wInstr, .c (.vs (vc [v, a]))] (.tup [vD (1, findL (rawL v) (rawL a) 0 + 1, []), iD 0]) := by
  refine w21 (bs wInstr) (vc [v, a]) ⟨by simp [vc_len], vc_sz _, vc_k _ _ (by omega) (by simp), ?_⟩
  rw [vc_vD _ _ (by omega) (by simp), vc_vD _ (1 : Int) (by omega) (by simp)]
  refine ⟨_, c_raw v hv, ?_⟩
  have hc := c_instr v a hv ha
  rw [instrR, if_pos h1] at hc
  simp only [mk_bs, bs_inj]
  exact ⟨fun h => absurd h (by decide), fun _ => ⟨fun h => absurd h (by decide), fun _ => ⟨fun h => absurd h (by decide), fun _ => ⟨fun h => absurd h (by decide), fun _ => ⟨fun _ => ⟨by simp [vc_len], vc_sz _, vc_k _ _ (by omega) (by simp), _, _, _, _, hc, rfl⟩, fun h => absurd rfl h⟩⟩⟩⟩⟩
theorem c_t (s : List UInt8) : FnC Tryd.prog 16 [sD s] (vD (2, 0, s)) := by
  refine w16 (bs s) ?_
  (try simp only [mk_bs, bs_inj, bs_size, bs_toList, bs_append, byteAt_bs])
  (repeat' (first | with_reducible refine ⟨fun _ => ?_, fun _ => ?_⟩ | fail))
  all_goals (rfl)
theorem c_n (n : Int) : FnC Tryd.prog 17 [iD n] (vD (1, n, [])) := by
  refine w17 n ?_
  (try simp only [mk_bs, bs_inj, bs_size, bs_toList, bs_append, byteAt_bs])
  (repeat' (first | with_reducible refine ⟨fun _ => ?_, fun _ => ?_⟩ | fail))
  all_goals (rfl)
end Go.Proofs.YtabakkdlcjpjfaaDoor
namespace Go.Proofs.YtabakkdlcjpjfaaDoor
open Go.RowKit Go.IntWalk
set_option linter.unusedSimpArgs false
set_option linter.unusedVariables false

theorem call_ok {op f : List UInt8} {L : List V3} {r : V3} (hop : Sm op) (hl : L.length ≤ 1000000) (hf : foldL op = f) (k : knownB f L.length = true) (b : badV L = 0) (a : L.any (fun v => v.1 == 0) = false)
    (nf : f ≠ wTypeof ∧ f ≠ wQuote ∧ f ≠ wCoalesce ∧ f ≠ wIfnull ∧ f ≠ wNullif ∧ f ≠ wConcat) (hr : (r.2.2.length : Int) ≤ 4096)
    (hc : FnC Tryd.prog 21 [sD f, .c (.vs (vc L))] (.tup [vD r, iD 0])) : FnC Tryd.prog 9 [sD op, .c (.vs (vc L))] (.tup [vD r, iD 0]) := by
  have h := c_Call op hop L hl nul 0 false r 0 (fun _ _ => by rw [hf]; exact c_open_not f L nf) (fun _ _ _ _ => by rw [hf]; exact hc)
  rw [callR, hf, if_pos k, if_pos b, if_neg (by simp), if_neg (by rw [a]; simp), fitR, if_neg (by omega), if_pos rfl] at h
  exact h
theorem sm_of (l : List UInt8) (h : l.length ≤ 100 := by decide) : Sm l := by unfold Sm; omega
theorem vs_of (k n : Int) (s : List UInt8) (h1 : -100 ≤ k ∧ k ≤ 100 := by decide) (h2 : -100 ≤ n ∧ n ≤ 100 := by decide) (h : s.length ≤ 100 := by decide) : Vs (k, n, s) := by
  refine ⟨?_, ?_, sm_of s h⟩ <;> (constructor <;> simp only [] <;> omega)

theorem c_awake : FnC Tryd.prog 7 [] (bD true) := by
  refine w7 ?_
  have hn : wSubstr ≠ wTypeof ∧ wSubstr ≠ wQuote ∧ wSubstr ≠ wCoalesce ∧ wSubstr ≠ wIfnull ∧ wSubstr ≠ wNullif ∧ wSubstr ≠ wConcat := by decide
  have hi : wInstr ≠ wTypeof ∧ wInstr ≠ wQuote ∧ wInstr ≠ wCoalesce ∧ wInstr ≠ wIfnull ∧ wInstr ≠ wNullif ∧ wInstr ≠ wConcat := by decide
  have e1 : subV (2, 0, [97, 98, 99]) (-2) none = (2, 0, [98, 99]) := by decide +kernel
  have e2 : subV (2, 0, [97, 98, 99]) 0 (some 2) = (2, 0, [97, 98]) := by decide +kernel
  have e3 : subV (2, 0, [97, 98, 99]) (-5) (some 3) = (2, 0, [97]) := by decide +kernel
  have e4 : findL [97, 98, 99, 98, 99] [98, 99] 0 = 1 := by rw [findL]; simp; rw [findL]; simp
  have k1 := c_call_sub2 (2, 0, [97, 98, 99]) (1, -2, []) (vs_of _ _ _) (vs_of _ _ _) rfl
  have k2 := c_call_sub3 (2, 0, [97, 98, 99]) (1, 0, []) (1, 2, []) (vs_of _ _ _) (vs_of _ _ _) (vs_of _ _ _) ⟨rfl, rfl⟩
  have k3 := c_call_sub3 (2, 0, [97, 98, 99]) (1, -5, []) (1, 3, []) (vs_of _ _ _) (vs_of _ _ _) (vs_of _ _ _) ⟨rfl, rfl⟩
  have k4 := c_call_instr (2, 0, [97, 98, 99, 98, 99]) (2, 0, [98, 99]) (vs_of _ _ _) (vs_of _ _ _) Iff.rfl
  rw [e1] at k1
  rw [e2] at k2
  rw [e3] at k3
  rw [show rawL (2, 0, [97, 98, 99, 98, 99]) = [97, 98, 99, 98, 99] from rfl, show rawL (2, 0, [98, 99]) = [98, 99] from rfl, e4] at k4
  have c1 := call_ok (op := [115, 117, 98, 115, 116, 114]) (sm_of _) (by decide) (by decide +kernel) (by decide +kernel) (by decide +kernel) (by decide) hn (by decide) k1
  have c2 := call_ok (op := [83, 85, 66, 83, 84, 82]) (sm_of _) (by decide) (by decide +kernel) (by decide +kernel) (by decide +kernel) (by decide) hn (by decide) k2
  have c3 := call_ok (op := [115, 117, 98, 115, 116, 114]) (sm_of _) (by decide) (by decide +kernel) (by decide +kernel) (by decide +kernel) (by decide) hn (by decide) k3
  have c4 := call_ok (op := [105, 110, 115, 116, 114]) (sm_of _) (by decide) (by decide +kernel) (by decide +kernel) (by decide +kernel) (by decide) hi (by decide) k4
  have c5 := c_Like [65, 98, 99] [97, 95, 37] (sm_of _) (sm_of _)
  have e5 : likB [65, 98, 99] [97, 95, 37] = true := by
    unfold likB
    rw [show foldL [65, 98, 99] = [97, 98, 99] by decide +kernel, show foldL [97, 95, 37] = [97, 95, 37] by decide +kernel]
    refine @decide_eq_true _ (Classical.propDecidable _) ?_
    exact .inr ⟨by decide, 97, [98, 99], rfl, .inr rfl, .inr ⟨by decide, 98, [99], rfl, .inl rfl, .inl ⟨rfl, 1, by simp, rfl⟩⟩⟩
  rw [e5] at c5
  have c6 := c_Known [97, 98, 115] 2 (sm_of _)
  rw [show knownB (foldL [97, 98, 115]) 2 = false by decide +kernel] at c6
  refine ⟨_, _, _, c_t [97, 98, 99], _, _, _, c_n (-2), fun x6 h6 => ?_⟩
  obtain rfl : x6 = vc [(2, 0, [97, 98, 99]), (1, -2, [])] := h6
  refine ⟨_, _, _, _, c1, _, _, _, c_t [97, 98, 99], _, _, _, c_n 0, _, _, _, c_n 2, fun x20 h20 => ?_⟩
  obtain rfl : x20 = vc [(2, 0, [97, 98, 99]), (1, 0, []), (1, 2, [])] := h20
  refine ⟨_, _, _, _, c2, _, _, _, c_t [97, 98, 99], _, _, _, c_n (-5), _, _, _, c_n 3, fun x34 h34 => ?_⟩
  obtain rfl : x34 = vc [(2, 0, [97, 98, 99]), (1, -5, []), (1, 3, [])] := h34
  refine ⟨_, _, _, _, c3, _, _, _, c_t [97, 98, 99, 98, 99], _, _, _, c_t [98, 99], fun x45 h45 => ?_⟩
  obtain rfl : x45 = vc [(2, 0, [97, 98, 99, 98, 99]), (2, 0, [98, 99])] := h45
  refine ⟨_, _, _, _, c4, _, _, _, fun _ => c_t [98, 99], _, _, _, fun _ => c_t [97, 98], _, _, _, fun _ => c_t [97], _, _, _, fun _ => c_n 2, _, fun _ => c5, _, fun _ => c6, ?_⟩
  simp [bD]

theorem walkLikes (s p : List UInt8) : FnC Tryd.prog 4 [sD s, sD p] (bD true) := by
  refine w4 (bs s) (bs p) ?_
  rw [bs_size, bs_size]
  refine ⟨fun _ => ⟨_, c_awake, rfl⟩, fun h => ?_⟩
  have hs : Sm s := by unfold Sm; omega
  have hp : Sm p := by unfold Sm; omega
  refine ⟨_, c_Like s p hs hp, _, c_rLike s p hs hp, _, fun _ => c_awake, ?_⟩
  simp [bD]
end Go.Proofs.YtabakkdlcjpjfaaDoor
namespace Go.Proofs.YtabakkdlcjpjfaaDoor
open Go.RowKit Go.IntWalk
set_option linter.unusedSimpArgs false
set_option linter.unusedVariables false

def upp (c : UInt8) : UInt8 := if 97 ≤ c ∧ c ≤ 122 then c - 32 else c
def upL (l : List UInt8) : List UInt8 := l.map upp
/-- a text of which the first k letters are small -/
def upK (l : List UInt8) (k : Nat) : List UInt8 := upL (l.take k) ++ l.drop k
theorem upK_len (l : List UInt8) (k : Nat) : (upK l k).length = l.length := by simp [upK, upL]; omega
theorem upK_at (l : List UInt8) (k : Nat) (h : k < l.length) : (upK l k)[k]'(by rw [upK_len]; exact h) = l[k] := by
  unfold upK
  rw [List.getElem_append_right (by simp [upL]; omega)]
  simp [upL, Nat.min_eq_left (Nat.le_of_lt h)]
theorem upK_zero (l : List UInt8) : upK l 0 = l := by simp [upK, upL]
theorem upK_all (l : List UInt8) : upK l l.length = upL l := by simp [upK]
theorem upK_step (l : List UInt8) (k : Nat) (h : k < l.length) : (upK l k).set k (upp l[k]) = upK l (k + 1) := by
  unfold upK
  rw [List.set_append_right _ _ (by simp [upL]; omega)]
  have e : k - (upL (l.take k)).length = 0 := by simp [upL]; omega
  rw [e, List.drop_eq_getElem_cons h, List.set_cons_zero, List.take_succ_eq_append_getElem h]
  simp [upL]
  rw [List.take_succ_eq_append_getElem (by simpa using h)]
  simp
theorem upK_stay (l : List UInt8) (k : Nat) (h : k < l.length) (hc : upp l[k] = l[k]) : upK l k = upK l (k + 1) := by
  rw [← upK_step l k h, hc]
  have := upK_at l k h
  rw [← this, List.set_getElem_self]

theorem upp_stay (c : UInt8) (h : ¬ (97 ≤ (c.toNat : Int) ∧ (c.toNat : Int) ≤ 122)) : upp c = c := by
  unfold upp
  rw [if_neg]
  rintro ⟨h1, h2⟩
  have h1 : 97 ≤ c.toNat := h1
  have h2 : c.toNat ≤ 122 := h2
  omega
theorem upp_up (c : UInt8) (h : 97 ≤ (c.toNat : Int) ∧ (c.toNat : Int) ≤ 122) : ((upp c).toNat : Int) = (c.toNat : Int) - 32 := by
  have h1 : 97 ≤ c := by show 97 ≤ c.toNat; omega
  have h2 : c ≤ 122 := by show c.toNat ≤ 122; omega
  unfold upp
  rw [if_pos ⟨h1, h2⟩, UInt8.toNat_sub]
  simp
  omega
theorem upL_len (l : List UInt8) : (upL l).length = l.length := by simp [upL]
theorem getD_upK (l : List UInt8) (k : Nat) (h : k < l.length) : (upK l k).getD k 0 = l.getD k 0 := by
  have := upK_at l k h
  rw [List.getD_eq_getElem?_getD, List.getD_eq_getElem?_getD, List.getElem?_eq_getElem (by rw [upK_len]; exact h), this, List.getElem?_eq_getElem h]
theorem c_upper (l : List UInt8) (hs : Sz l) : FnC Tryd.prog 44 [sD l] (sD (upL l)) := by
  unfold Sz at hs
  refine w44 (bs l) ?_
  intro x1 hx1
  rw [bc_bs] at hx1
  subst hx1
  rw [bc_len]
  refine ⟨fun rows i k => 0 ≤ i ∧ i ≤ l.length ∧ rows = bc (upK l i.toNat) ∧ k = l.length - i.toNat, ⟨_, by omega, by omega, by rw [Int.toNat_zero, upK_zero], rfl⟩, ?_⟩
  rintro k rows i ⟨h0, h1, rfl, rfl⟩
  refine ⟨fun hi => ?_, fun hi => ?_⟩
  · have hk : i.toNat < l.length := by omega
    have hk2 : i < ((upK l i.toNat).length : Int) := by rw [upK_len]; omega
    rw [bc_at _ _ h0 hk2, getD_upK l _ hk, i64_in (i + 1) (by omega)]
    refine ⟨by omega, bc_kind _ _ h0 hk2, fun hc => ?_, fun hc => ?_⟩
    · rw [bc_len, upK_len]
      refine ⟨by omega, by omega, fun x4 hx4 => ?_⟩
      rw [bc_set (b := upp (l.getD i.toNat 0)) (hz := by rw [u8_in (((l.getD i.toNat 0).toNat : Int) - 97) (by omega), u8_in _ (by omega), upp_up _ hc]; omega), getD_at l _ hk, upK_step l _ hk] at hx4
      subst hx4
      refine ⟨_, ?_, by omega, by omega, ?_, rfl⟩
      · omega
      · rw [show (i + 1).toNat = i.toNat + 1 by omega]
    · refine ⟨_, ?_, by omega, by omega, ?_, rfl⟩
      · omega
      · rw [show (i + 1).toNat = i.toNat + 1 by omega, upK_stay l _ hk (by rw [← getD_at l _ hk]; exact upp_stay _ hc)]
  · have e : i.toNat = l.length := by omega
    rw [e, upK_all, bc_len, upL_len, Int.toNat_natCast, bc_take, bc_str, ← upL_len l, List.take_length]
    exact ⟨by omega, bc_all _, rfl⟩

theorem low_upp (c : UInt8) : low (upp c) = low c := by
  unfold low upp
  by_cases h : 97 ≤ c ∧ c ≤ 122
  · rw [if_pos h, if_neg (show ¬ (65 ≤ c ∧ c ≤ 90) from fun h2 => by
      have h3 : c.toNat ≤ 90 := h2.2
      have h4 : 97 ≤ c.toNat := h.1
      omega)]
    have h1 : 97 ≤ c.toNat := h.1
    have h2 : c.toNat ≤ 122 := h.2
    have e : (c - 32).toNat = c.toNat - 32 := by rw [UInt8.toNat_sub]; simp; omega
    rw [if_pos (show 65 ≤ c - 32 ∧ c - 32 ≤ 90 from ⟨by show 65 ≤ (c - 32).toNat; omega, by show (c - 32).toNat ≤ 90; omega⟩)]
    apply UInt8.toNat_inj.1
    rw [UInt8.toNat_add, e]; simp; omega
  · rw [if_neg h]
theorem fold_up (l : List UInt8) : foldL (upL l) = foldL l := by
  unfold foldL upL
  rw [List.map_map]
  exact List.map_congr_left fun c _ => low_upp c
theorem likB_up (s p : List UInt8) : likB (upL s) p = likB s p := by unfold likB; rw [fold_up]
theorem likB_up2 (s p : List UInt8) : likB s (upL p) = likB s p := by unfold likB; rw [fold_up]

theorem c_call_up (v : V3) (hv : Vs v) (h : v.1 = 2) : FnC Tryd.prog 21 [sD wUpper, .c (.vs (vc [v]))] (.tup [vD (2, 0, upL (rawL v)), iD 0]) := by
  refine w21 (bs wUpper) (vc [v]) ⟨by simp [vc_len], vc_sz _, vc_k _ _ (by omega) (by simp), ?_⟩
  rw [vc_vD _ (0 : Int) (by omega) (by simp), vc_0 _ (0 : Int) (by omega) (by simp)]
  refine ⟨_, c_raw v hv, ?_⟩
  have hc := c_upper (rawL v) (rawL_sm hv).sz
  have h3 : ¬ v.1 = 3 := by omega
  simp only [mk_bs, bs_inj]
  iterate 8 refine ⟨fun h => absurd h (by decide), fun _ => ?_⟩
  exact ⟨fun h => absurd h h3, fun _ => ⟨fun _ => ⟨_, hc, _, _, _, _, c_fstr _, rfl⟩, fun h => absurd rfl h⟩⟩
theorem c_call_low (v : V3) (hv : Vs v) (h : v.1 = 2) : FnC Tryd.prog 21 [sD wLower, .c (.vs (vc [v]))] (.tup [vD (2, 0, foldL (rawL v)), iD 0]) := by
  refine w21 (bs wLower) (vc [v]) ⟨by simp [vc_len], vc_sz _, vc_k _ _ (by omega) (by simp), ?_⟩
  rw [vc_vD _ (0 : Int) (by omega) (by simp), vc_0 _ (0 : Int) (by omega) (by simp)]
  refine ⟨_, c_raw v hv, ?_⟩
  have hc := c_tFold (rawL v) (rawL_sm hv).sz
  have h3 : ¬ v.1 = 3 := by omega
  simp only [mk_bs, bs_inj]
  iterate 8 refine ⟨fun h => absurd h (by decide), fun _ => ?_⟩
  exact ⟨fun h => absurd h h3, fun _ => ⟨fun h => absurd h (by decide), fun _ => ⟨fun _ => ⟨_, hc, _, _, _, _, c_fstr _, rfl⟩, fun h => absurd rfl h⟩⟩⟩
theorem ok_text {s : List UInt8} (h : s.length ≤ 4096) : checkV (2, 0, s) = 0 := by
  unfold checkV
  rw [if_neg (by simp), if_neg (by simp only []; omega)]
theorem ok_int (n : Int) : checkV (1, n, []) = 0 := by
  unfold checkV
  rw [if_neg (by simp), if_neg (by simp)]
theorem vs_text {s : List UInt8} (h : s.length ≤ 4096) : Vs (2, 0, s) := ⟨⟨by show -9223372036854775808 ≤ (2 : Int); omega, by show (2 : Int) ≤ 9223372036854775807; omega⟩, ⟨by show -9223372036854775808 ≤ (0 : Int); omega, by show (0 : Int) ≤ 9223372036854775807; omega⟩, by show s.length ≤ 1000000; omega⟩
theorem vs_int {n : Int} (h : I64 n) : Vs (1, n, []) := ⟨⟨by show -9223372036854775808 ≤ (1 : Int); omega, by show (1 : Int) ≤ 9223372036854775807; omega⟩, h, by show 0 ≤ 1000000; omega⟩
theorem call_up {s : List UInt8} (h : s.length ≤ 4096) : FnC Tryd.prog 9 [sD wUpper, .c (.vs (vc [(2, 0, s)]))] (.tup [vD (2, 0, upL s), iD 0]) :=
  call_ok (sm_of _) (by show 1 ≤ 1000000; omega) (f := wUpper) (by decide +kernel) (show knownB wUpper 1 = true by decide +kernel) (by simp [badV, ok_text h]) (by simp) (by decide) (by show (((upL s).length : Nat) : Int) ≤ 4096; rw [upL_len]; omega) (c_call_up (2, 0, s) (vs_text h) rfl)
theorem call_low {s : List UInt8} (h : s.length ≤ 4096) : FnC Tryd.prog 9 [sD wLower, .c (.vs (vc [(2, 0, s)]))] (.tup [vD (2, 0, foldL s), iD 0]) :=
  call_ok (sm_of _) (by show 1 ≤ 1000000; omega) (f := wLower) (by decide +kernel) (show knownB wLower 1 = true by decide +kernel) (by simp [badV, ok_text h]) (by simp) (by decide) (by show (((foldL s).length : Nat) : Int) ≤ 4096; rw [foldL_len]; omega) (c_call_low (2, 0, s) (vs_text h) rfl)

theorem walkLetters (s p : List UInt8) : FnC Tryd.prog 5 [sD s, sD p] (bD true) := by
  refine w5 (bs s) (bs p) ⟨_, c_awake, ?_⟩
  rw [bs_size, bs_size]
  refine ⟨fun _ => ⟨_, c_awake, rfl⟩, fun h => ?_⟩
  have hs : s.length ≤ 200 := by omega
  have hp : p.length ≤ 50 := by omega
  have hs2 : Sm s := by unfold Sm; omega
  have hp2 : Sm p := by unfold Sm; omega
  have hu : (upL s).length ≤ 200 := by rw [upL_len]; exact hs
  have hu2 : Sm (upL s) := by unfold Sm; omega
  have c1 := call_up (s := s) (by omega)
  have c2 := call_low (s := upL s) (by omega)
  have c3 := call_low (s := s) (by omega)
  rw [fold_up] at c2
  have k1 := c_Like (upL s) p hu2 hp2
  have k2 := c_Like s p hs2 hp2
  have k3 := c_Like s (upL s) hs2 hu2
  have k4 := c_rLike s s hs2 hs2
  rw [likB_up] at k1
  rw [likB_up2] at k3
  refine ⟨_, _, _, c_t s, fun x6 h6 => ?_⟩
  obtain rfl : x6 = vc [(2, 0, s)] := h6
  refine ⟨_, _, _, _, c1, fun x11 h11 => ?_⟩
  obtain rfl : x11 = vc [(2, 0, upL s)] := h11
  refine ⟨_, _, _, _, c2, _, _, _, c_t s, fun x19 h19 => ?_⟩
  obtain rfl : x19 = vc [(2, 0, s)] := h19
  refine ⟨_, _, _, _, c3, _, fun _ => k1, _, fun _ => k2, _, fun _ => k3, _, fun _ => k4, ?_⟩
  simp [bD, bs_size, upL_len]
end Go.Proofs.YtabakkdlcjpjfaaDoor
namespace Go.Proofs.YtabakkdlcjpjfaaDoor
open Go.RowKit Go.IntWalk
set_option linter.unusedSimpArgs false
set_option linter.unusedVariables false

def catL (L : List V3) : List UInt8 := L.flatMap rawL
theorem catL_len : ∀ {L : List V3}, (∀ v ∈ L, Vs v) → (catL L).length ≤ L.length * 1000000
  | [], _ => by simp [catL]
  | v :: L, h => by
    have h1 := rawL_sm (h v (by simp))
    have h2 := catL_len (L := L) fun u hu => h u (by simp [hu])
    unfold Sm at h1
    simp only [catL, List.flatMap_cons, List.length_append, List.length_cons] at h2 ⊢
    omega
theorem catL_snoc (L : List V3) (v : V3) : catL (L ++ [v]) = catL L ++ rawL v := by simp [catL]
theorem getD_memV (L : List V3) (K : Nat) (h : K < L.length) : L.getD K nul ∈ L := by
  rw [List.getD_eq_getElem?_getD, List.getElem?_eq_getElem h]
  exact List.getElem_mem h
def catR (L : List V3) : V3 × Int := if L.any (fun v => v.1 == 3) = true then (nul, 11) else ((2, 0, catL L), 0)
theorem c_concat (L : List V3) (hL : ∀ v ∈ L, Vs v) (hl : L.length ≤ 1000000) : FnC Tryd.prog 35 [.c (.vs (vc L))] (.tup [vD (catR L).1, iD (catR L).2]) := by
  refine w35 (vc L) ?_
  rw [vc_len]
  refine ⟨fun rows i m => ∃ K : Nat, i = K ∧ K ≤ L.length ∧ rows = bc (catL (L.take K)) ∧ (L.take K).any (fun v => v.1 == 3) = false ∧ m = L.length - K, ⟨_, 0, rfl, by omega, rfl, by simp, rfl⟩, ?_⟩
  rintro m rows i ⟨K, rfl, hK, rfl, hn, rfl⟩
  have hT : (catL (L.take K)).length ≤ (L.take K).length * 1000000 := catL_len fun v hv => hL v (List.mem_of_mem_take hv)
  rw [List.length_take] at hT
  refine ⟨fun hi => ⟨by omega, vc_sz _, vc_k _ _ (by omega) (by omega), ?_⟩, fun hi => ?_⟩
  · rw [vc_vD _ _ (by omega) (by omega), vc_0 _ _ (by omega) (by omega), Int.toNat_natCast]
    have hm := getD_memV L K (by omega)
    refine ⟨fun h => ?_, fun h => ?_⟩
    · have : L.any (fun v => v.1 == 3) = true := List.any_eq_true.2 ⟨_, hm, by simpa using h⟩
      unfold catR
      rw [if_pos this]; rfl
    · have hr := rawL_sm (hL _ hm)
      unfold Sm at hr
      refine ⟨_, c_raw _ (hL _ hm), ?_, ?_⟩
      · rw [bc_len, bs_size]; omega
      · rintro x4 rfl
        rw [bc_bs, bc_app, i64_in _ (by omega)]
        refine ⟨_, ?_, K + 1, by omega, by omega, ?_, ?_, rfl⟩
        · omega
        · rw [take_v L K (by omega), catL_snoc]
        · rw [take_v L K (by omega), List.any_append, hn]
          simpa using h
  · have e : K = L.length := by omega
    subst e
    rw [List.take_length] at hn ⊢
    unfold catR
    rw [if_neg (by rw [hn]; simp)]
    refine ⟨bc_all _, ?_⟩
    rw [bc_str]
    exact ⟨_, _, _, _, c_fstr _, rfl⟩
theorem c_open_cat (L : List V3) (hL : ∀ v ∈ L, Vs v) (hl : L.length ≤ 1000000) : FnC Tryd.prog 20 [sD wConcat, .c (.vs (vc L))] (.tup [vD (catR L).1, iD (catR L).2, bD true]) := by
  refine w20 (bs wConcat) (vc L) ?_
  simp only [mk_bs, bs_inj]
  iterate 5 refine ⟨fun h => absurd h (by decide), fun _ => ?_⟩
  exact ⟨fun _ => ⟨_, _, _, _, c_concat L hL hl, rfl⟩, fun h => absurd rfl h⟩

theorem findL_le (s t : List UInt8) (J : Nat) (hJ : J + t.length ≤ s.length) (he : (s.drop J).take t.length = t) : ∀ i, i ≤ J → (i : Int) ≤ findL s t i ∧ findL s t i ≤ J := fun i => by
  induction h : J - i using Nat.strongRecOn generalizing i with
  | _ n ih =>
    intro hi
    rw [findL, dif_pos (by omega)]
    by_cases h1 : (s.drop i).take t.length = t
    · rw [if_pos h1]; omega
    · have : i ≠ J := fun e => h1 (by rw [e]; exact he)
      rw [if_neg h1, dif_pos (by omega)]
      have := ih _ (by omega) (i + 1) rfl (by omega)
      omega

theorem sub_a (s : List UInt8) (q : Nat) (hq : q < s.length) : subV (2, 0, s) 1 (some (q : Int)) = (2, 0, s.take q) := by
  have e : subL s 1 (some (q : Int)) = s.take q := by
    unfold subL
    dsimp only
    rw [if_neg (by omega), if_neg (by omega)]
    refine (cut_same (a' := 0) (b' := q) ?_).trans (by simp)
    omega
  unfold subV
  rw [show rawL (2, 0, s) = s from rfl, e]; rfl
theorem sub_b (s : List UInt8) (q r : Nat) (hq : q < s.length) (hr : r ≤ s.length) : subV (2, 0, s) ((q : Int) + 1) (some (r : Int)) = (2, 0, (s.take (q + r)).drop q) := by
  have e : subL s ((q : Int) + 1) (some (r : Int)) = (s.take (q + r)).drop q := by
    unfold subL
    dsimp only
    rw [if_neg (by omega), if_neg (by omega)]
    refine cut_same ?_
    omega
  unfold subV
  rw [show rawL (2, 0, s) = s from rfl, e]; rfl
theorem sub_c (s : List UInt8) (q r : Nat) (hq : q < s.length) (hr : r ≤ s.length) : subV (2, 0, s) ((q : Int) + 1 + r) none = (2, 0, s.drop (q + r)) := by
  have e : subL s ((q : Int) + 1 + r) none = s.drop (q + r) := by
    unfold subL
    dsimp only
    rw [if_neg (by omega), if_neg (by omega), Int.toNat_natCast, List.take_length]
    congr 1
    omega
  unfold subV
  rw [show rawL (2, 0, s) = s from rfl, e]; rfl
theorem cut3 (s : List UInt8) (q r : Nat) : s.take q ++ ((s.take (q + r)).drop q ++ s.drop (q + r)) = s := by
  have h : s.take q ++ (s.take (q + r)).drop q = s.take (q + r) := by
    have := List.take_append_drop q (s.take (q + r))
    rwa [List.take_take, Nat.min_eq_left (by omega)] at this
  rw [← List.append_assoc, h, List.take_append_drop]

theorem walkCuts (s : List UInt8) (x1 x2 : Int) (hx1 : I64 x1) (hx2 : I64 x2) : FnC Tryd.prog 6 [sD s, iD x1, iD x2] (bD true) := by
  refine w6 (bs s) x1 x2 ⟨_, c_awake, ?_⟩
  rw [bs_size]
  refine ⟨fun _ => ⟨_, c_awake, rfl⟩, fun h => ?_⟩
  have hs : s.length ≤ 200 := by omega
  have h0 : 1 ≤ s.length := by omega
  rw [i64_in ((s.length : Int) + 1) (by omega), u64_in (s.length : Int) (by omega), u64_in ((s.length : Int) + 1) (by omega)]
  obtain ⟨q, hq, hq2⟩ : ∃ q : Nat, Int.tmod (IntKind.wrap .u64 x1) (s.length : Int) = q ∧ q < s.length := by
    have p0 : 0 ≤ IntKind.wrap .u64 x1 := by rw [IntKind.wrap_u64]; omega
    refine ⟨(Int.tmod (IntKind.wrap .u64 x1) (s.length : Int)).toNat, ?_, ?_⟩
    · have := Int.tmod_nonneg (s.length : Int) p0; omega
    · have := Int.tmod_nonneg (s.length : Int) p0
      have := Int.tmod_lt_of_pos (IntKind.wrap .u64 x1) (show 0 < (s.length : Int) by omega); omega
  obtain ⟨r, hr, hr2⟩ : ∃ r : Nat, Int.tmod (IntKind.wrap .u64 x2) ((s.length : Int) + 1) = r ∧ r ≤ s.length := by
    have p0 : 0 ≤ IntKind.wrap .u64 x2 := by rw [IntKind.wrap_u64]; omega
    refine ⟨(Int.tmod (IntKind.wrap .u64 x2) ((s.length : Int) + 1)).toNat, ?_, ?_⟩
    · have := Int.tmod_nonneg ((s.length : Int) + 1) p0; omega
    · have := Int.tmod_nonneg ((s.length : Int) + 1) p0
      have := Int.tmod_lt_of_pos (IntKind.wrap .u64 x2) (show 0 < (s.length : Int) + 1 by omega); omega
  rw [hq, hr, i64_in (q : Int) (by omega), i64_in (r : Int) (by omega), i64_in ((q : Int) + 1) (by omega), i64_in ((q : Int) + 1 - 1) (by omega), i64_in ((q : Int) + 1 + r) (by omega)]
  have hS : Vs (2, 0, s) := vs_text (by omega)
  have k1 := c_call_sub3 (2, 0, s) (1, 1, []) (1, (q : Int), []) hS (vs_int (by constructor <;> omega)) (vs_int (by constructor <;> omega)) ⟨rfl, rfl⟩
  have k2 := c_call_sub3 (2, 0, s) (1, (q : Int) + 1, []) (1, (r : Int), []) hS (vs_int (by constructor <;> omega)) (vs_int (by constructor <;> omega)) ⟨rfl, rfl⟩
  have k3 := c_call_sub2 (2, 0, s) (1, (q : Int) + 1 + r, []) hS (vs_int (by constructor <;> omega)) rfl
  rw [sub_a s q hq2] at k1
  rw [sub_b s q r hq2 hr2] at k2
  rw [sub_c s q r hq2 hr2] at k3
  have lA : (s.take q).length ≤ 4096 := by rw [List.length_take]; omega
  have lB : ((s.take (q + r)).drop q).length ≤ 4096 := by rw [List.length_drop, List.length_take]; omega
  have lC : (s.drop (q + r)).length ≤ 4096 := by rw [List.length_drop]; omega
  have lS : s.length ≤ 4096 := by omega
  have hn : wSubstr ≠ wTypeof ∧ wSubstr ≠ wQuote ∧ wSubstr ≠ wCoalesce ∧ wSubstr ≠ wIfnull ∧ wSubstr ≠ wNullif ∧ wSubstr ≠ wConcat := by decide
  have hi : wInstr ≠ wTypeof ∧ wInstr ≠ wQuote ∧ wInstr ≠ wCoalesce ∧ wInstr ≠ wIfnull ∧ wInstr ≠ wNullif ∧ wInstr ≠ wConcat := by decide
  have c1 := call_ok (op := wSubstr) (sm_of _) (by show 3 ≤ 1000000; omega) (by decide +kernel) (show knownB wSubstr 3 = true by decide +kernel) (by simp [badV, ok_text lS, ok_int]) (by simp) hn (by show (((s.take q).length : Nat) : Int) ≤ 4096; omega) k1
  have c2 := call_ok (op := wSubstr) (sm_of _) (by show 3 ≤ 1000000; omega) (by decide +kernel) (show knownB wSubstr 3 = true by decide +kernel) (by simp [badV, ok_text lS, ok_int]) (by simp) hn (by show ((((s.take (q + r)).drop q).length : Nat) : Int) ≤ 4096; omega) k2
  have c3 := call_ok (op := wSubstr) (sm_of _) (by show 2 ≤ 1000000; omega) (by decide +kernel) (show knownB wSubstr 2 = true by decide +kernel) (by simp [badV, ok_text lS, ok_int]) (by simp) hn (by show (((s.drop (q + r)).length : Nat) : Int) ≤ 4096; omega) k3
  have k4 := c_call_instr (2, 0, s) (2, 0, (s.take (q + r)).drop q) hS (vs_text lB) Iff.rfl
  rw [show rawL (2, 0, s) = s from rfl, show rawL (2, 0, (s.take (q + r)).drop q) = (s.take (q + r)).drop q from rfl] at k4
  have c4 := call_ok (op := wInstr) (sm_of _) (by show 2 ≤ 1000000; omega) (by decide +kernel) (show knownB wInstr 2 = true by decide +kernel) (by simp [badV, ok_text lS, ok_text lB]) (by simp) hi (by show ((0 : Nat) : Int) ≤ 4096; omega) k4
  have eB : (s.take (q + r)).drop q = (s.drop q).take r := by rw [List.drop_take]; congr 1; omega
  have fl := findL_le s ((s.take (q + r)).drop q) q (by rw [List.length_drop, List.length_take]; omega) (by
    rw [eB, List.length_take, List.take_eq_take_iff]; omega) 0 (by omega)
  have vL : ∀ v ∈ ([(2, 0, s.take q), (2, 0, (s.take (q + r)).drop q), (2, 0, s.drop (q + r))] : List V3), Vs v := by
    intro v hv
    simp only [List.mem_cons, List.not_mem_nil, or_false] at hv
    rcases hv with rfl | rfl | rfl
    · exact vs_text lA
    · exact vs_text lB
    · exact vs_text lC
  have eC : catR [(2, 0, s.take q), (2, 0, (s.take (q + r)).drop q), (2, 0, s.drop (q + r))] = ((2, 0, s), 0) := by
    unfold catR
    rw [if_neg (by simp)]
    simp only [catL, List.flatMap_cons, List.flatMap_nil, List.append_nil]
    rw [show rawL (2, 0, s.take q) = s.take q from rfl, show rawL (2, 0, (s.take (q + r)).drop q) = (s.take (q + r)).drop q from rfl, show rawL (2, 0, s.drop (q + r)) = s.drop (q + r) from rfl, cut3]
  have k5 := c_open_cat _ vL (by show 3 ≤ 1000000; omega)
  rw [eC] at k5
  have c5 := c_Call wConcat (sm_of _) [(2, 0, s.take q), (2, 0, (s.take (q + r)).drop q), (2, 0, s.drop (q + r))] (by show 3 ≤ 1000000; omega) (2, 0, s) 0 true nul 0
    (fun _ _ => by rw [show foldL wConcat = wConcat by decide +kernel]; exact k5) (fun _ _ h => by cases h)
  rw [callR, if_pos (by show knownB (foldL wConcat) 3 = true; decide +kernel), if_pos (by simp [badV, ok_text lA, ok_text lB, ok_text lC]), if_pos rfl, fitR, if_neg (by simp only []; omega), if_pos rfl] at c5
  refine ⟨by omega, by omega, _, _, _, c_t s, _, _, _, c_n 1, _, _, _, c_n ((q : Int) + 1 - 1), fun x13 h13 => ?_⟩
  rw [show (q : Int) + 1 - 1 = q by omega] at h13
  obtain rfl : x13 = vc [(2, 0, s), (1, 1, []), (1, (q : Int), [])] := h13
  refine ⟨_, _, _, _, c1, _, _, _, c_t s, _, _, _, c_n ((q : Int) + 1), _, _, _, c_n r, fun x27 h27 => ?_⟩
  obtain rfl : x27 = vc [(2, 0, s), (1, (q : Int) + 1, []), (1, (r : Int), [])] := h27
  refine ⟨_, _, _, _, c2, _, _, _, c_t s, _, _, _, c_n ((q : Int) + 1 + r), fun x38 h38 => ?_⟩
  obtain rfl : x38 = vc [(2, 0, s), (1, (q : Int) + 1 + r, [])] := h38
  refine ⟨_, _, _, _, c3, _, _, _, c_t s, fun x46 h46 => ?_⟩
  obtain rfl : x46 = vc [(2, 0, s), (2, 0, (s.take (q + r)).drop q)] := h46
  refine ⟨_, _, _, _, c4, fun x51 h51 => ?_⟩
  obtain rfl : x51 = vc [(2, 0, s.take q), (2, 0, (s.take (q + r)).drop q), (2, 0, s.drop (q + r))] := h51
  refine ⟨_, _, _, _, c5, _, _, _, fun _ => c_t s, ?_⟩
  have f1 : (1 : Int) ≤ findL s ((s.take (q + r)).drop q) 0 + 1 := by omega
  have f2 : findL s ((s.take (q + r)).drop q) 0 + 1 ≤ (q : Int) + 1 := by omega
  simp [bD, f1, f2]
end Go.Proofs.YtabakkdlcjpjfaaDoor
namespace Go.Proofs.YtabakkdlcjpjfaaDoor
open Go.RowKit Go.ChangeShapes Go.WideShapes
set_option linter.unusedSimpArgs false
set_option linter.unusedVariables false

theorem CVRs.at {w : World} {X : Nat → Prop} : ∀ {cs : List CV} {rs : List Value}, CVRs w X cs rs → ∀ (f : Nat) (c : CV), cs[f]? = some c → ∃ r, rs[f]? = some r ∧ CVR w X c r
  | [], [], _, f, c, h => by simp at h
  | c0 :: cs, r :: rs, hr, 0, c, h => by
    simp only [CVRs] at hr
    simp only [List.getElem?_cons_zero, Option.some.injEq] at h
    subst h
    exact ⟨r, rfl, hr.1⟩
  | c0 :: cs, r :: rs, hr, f + 1, c, h => by
    simp only [CVRs] at hr
    simp only [List.getElem?_cons_succ] at h ⊢
    exact CVRs.at hr.2 f c h
  | [], _ :: _, hr, _, _, _ => by simp only [CVRs] at hr
  | _ :: _, [], hr, _, _, _ => by simp only [CVRs] at hr
theorem CVRs.len {w : World} {X : Nat → Prop} : ∀ {cs : List CV} {rs : List Value}, CVRs w X cs rs → cs.length = rs.length
  | [], [], _ => rfl
  | c0 :: cs, r :: rs, hr => by
    simp only [CVRs] at hr
    simp only [List.length_cons, CVRs.len hr.2]
  | [], _ :: _, hr => by simp only [CVRs] at hr
  | _ :: _, [], hr => by simp only [CVRs] at hr
theorem ret_ofF {P : Program} {f : FuncId} {args : List DV} (h : FnC P f args (bD true)) (vs : Array Value) (w : World) (hg : Glo w) (hv : DVRs w (fun _ => False) args vs.toList) : Calls P f vs w (Ret (.bool true) w) := by
  have := h.2 w (fun _ => False) vs.toList hg (fun _ h => h.elim) hv
  refine Calls.mono (by simpa using this) ?_
  rintro e w' ⟨v, rfl, hr, hb⟩
  simp only [DVR] at hr
  cases hr
  exact ⟨rfl, hb⟩
section
variable {H : Type} {enc : TypeId × Value → H} {P : Program} {W : World}
/-- a slice, cell by cell -/
theorem slice_cells {t e : TypeId} (ht : P.underlying t = some (.slice e)) (hpos : 0 < P.cellsOf e) (Q : List CV → Prop)
    (hel : ∀ n cs x, DataW.trod enc P W 0 (fun _ => true) true n e cs = some x → ∃ el : List CV, CVRs W (fun _ => False) el cs ∧ Q el)
    {fuel : Nat} {v : Value} {x : DataW H × List MemPlace} (hsp : ∀ a c, v = .slice (some a) 0 c → a.spot = none) (h : DataW.trod enc P W 0 (fun _ => true) true fuel t [v] = some x) :
    ∃ els : List (List CV), CVR W (fun _ => False) (.vs els) v ∧ (∀ el ∈ els, Q el) ∧ els.length ≤ maxLen := by
  rcases Go.Deep.open_slice ht h with ⟨h0, _⟩ | ⟨a, len, cap, m, n, D, Pl, hv, hb, hl, hm, hmm, _, hx⟩
  · simp only [List.cons.injEq, and_true] at h0
    subst h0
    exact ⟨[], .nil, by simp, Nat.zero_le _⟩
  · simp only [List.cons.injEq, and_true] at hv
    subst hv
    have hmm : m = cap := by simpa using hmm
    subst hmm
    have each : ∀ i, i < len → ∃ q : List CV × List Value, W.cells? 0 (a.add (i * P.cellsOf e)) (P.cellsOf e) = some q.2 ∧ CVRs W (fun _ => False) q.1 q.2 ∧ Q q.1 := fun i hi => by
      obtain ⟨cs', h1, h2⟩ := hx i (by omega)
      obtain ⟨el, h3, h4⟩ := hel _ _ _ h2
      exact ⟨(el, cs'), h1, h3, h4⟩
    obtain ⟨q, hq⟩ := Go.Deep.choose_lt each
    have hl1 : ((List.range len).map fun i => (q i).1).length = len := by simp
    have hin : ∀ (i : Nat) (el : List CV), ((List.range len).map fun i => (q i).1)[i]? = some el → i < len ∧ el = (q i).1 := fun i el hi => by
      by_cases h : i < len
      · rw [List.getElem?_map, List.getElem?_range h] at hi
        simp only [Option.map_some, Option.some.injEq] at hi
        exact ⟨h, hi.symm⟩
      · rw [List.getElem?_eq_none (by simp; omega)] at hi
        cases hi
    have hlen : ∀ i, i < len → (q i).1.length = P.cellsOf e ∧ (q i).2.length = P.cellsOf e := fun i hi => by
      obtain ⟨h1, h2, _⟩ := hq i hi
      obtain ⟨_, h3, _⟩ := World.cells?_some h1
      exact ⟨by rw [CVRs.len h2, h3], h3⟩
    refine ⟨(List.range len).map fun i => (q i).1, ?_, ?_, by rw [hl1]; omega⟩
    · have hspot : a.spot = none := by
        by_cases h0 : len = 0
        · subst h0; exact hsp a m rfl
        · obtain ⟨h1, _, _⟩ := hq 0 (by omega)
          obtain ⟨_, h3, h4⟩ := World.cells?_some h1
          have h5 := h4 0 hpos
          rw [List.getElem?_eq_getElem (by omega)] at h5
          have := World.cell?_spot h5
          simpa [Addr.add] using this
      obtain ⟨b, o, spot⟩ := a
      have hspot : spot = none := hspot
      subst hspot
      have hc := CVR.vs (w := W) (X := fun _ => False) ((List.range len).map fun i => (q i).1) b o (P.cellsOf e) m (fun i f => ((q i).2[f]?).getD default)
        (fun el hel => by
          simp only [List.mem_map, List.mem_range] at hel
          obtain ⟨i, hi, rfl⟩ := hel
          exact (hlen i hi).1)
        (by rw [hl1]; exact hl)
        (fun i el hi f cv hf => by
          obtain ⟨hj, rfl⟩ := hin i el hi
          have hf2 : f < P.cellsOf e := by
            rw [← (hlen i hj).1]
            exact (List.getElem?_eq_some_iff.1 hf).1
          obtain ⟨h1, h2, _⟩ := hq i hj
          obtain ⟨_, h3, h4⟩ := World.cells?_some h1
          have h5 := h4 f hf2
          rw [Go.WideShapes.add_plain, Go.WideShapes.add_plain, List.getElem?_eq_getElem (by omega)] at h5
          refine ⟨fun h => h, ?_⟩
          rw [h5, List.getElem?_eq_getElem (by omega)]; rfl)
        (fun i el hi f cv hf => by
          obtain ⟨hj, rfl⟩ := hin i el hi
          obtain ⟨_, h2, _⟩ := hq i hj
          obtain ⟨r, hr, hv⟩ := h2.at f cv hf
          rw [hr]; exact hv)
      rwa [hl1] at hc
    · intro el hel
      simp only [List.mem_map, List.mem_range] at hel
      obtain ⟨i, hi, rfl⟩ := hel
      exact (hq i hi).2.2
theorem slice_arg {t e : TypeId} (ht : P.underlying t = some (.slice e)) (hpos : 0 < P.cellsOf e) (Q : List CV → Prop)
    (hel : ∀ n cs x, DataW.trod enc P W 0 (fun _ => true) true n e cs = some x → ∃ el : List CV, CVRs W (fun _ => False) el cs ∧ Q el)
    {v : Value} {d : DataW H} {ps : List MemPlace} (hval : Value.okWide P W .any 0 t v) (h : DataW.Trod enc P W 0 (fun _ => true) true t v d ps) :
    ∃ els : List (List CV), CVR W (fun _ => False) (.vs els) v ∧ (∀ el ∈ els, Q el) ∧ els.length ≤ maxLen := by
  obtain ⟨fuel, h⟩ := h
  unfold Value.okWide at hval
  rw [ht] at hval
  simp only [] at hval
  have hc : v.cells.toList = [v] := by
    cases v <;> first | rfl | (exfalso; unfold Cell.okWide Cell.ok at hval; rw [ht] at hval; exact hval)
  rw [hc] at h
  refine slice_cells ht hpos Q hel (fun a c e => ?_) h
  subst e
  unfold Cell.okWide Cell.ok at hval
  rw [ht] at hval
  exact hval.2.2.2.1
/-- the cells of a value of three fields -/
theorem val_cells {t : TypeId} {f0 f1 f2 : Field} (ht : P.underlying t = some (.struct #[f0, f1, f2])) (ct : P.cellsOf t = 3) (o0 : f0.offset = 0) (o1 : f1.offset = 1) (o2 : f2.offset = 2)
    (c0 : P.cellsOf f0.type = 1) (c1 : P.cellsOf f1.type = 1) (c2 : P.cellsOf f2.type = 1) (h0 : P.underlying f0.type = some (.int .i64)) (h1 : P.underlying f1.type = some (.int .i64)) (h2 : P.underlying f2.type = some .string)
    (n : Nat) (cs : List Value) (x : DataW H × List MemPlace) (h : DataW.trod enc P W 0 (fun _ => true) true n t cs = some x) :
    ∃ el : List CV, CVRs W (fun _ => False) el cs ∧ ∃ v : V3, el = [.v (.int .i64 v.1), .v (.int .i64 v.2.1), .v (.string (bs v.2.2))] ∧ I64 v.1 ∧ I64 v.2.1 ∧ v.2.2.length ≤ maxLen := by
  obtain ⟨xs, k, _, _, hl, hxl, hf⟩ := DataW.trod_struct ht h
  rw [ct] at hl
  match cs, hl, xs, hxl with
  | [a, b, c], _, [y0, y1, y2], _ =>
    have g0 := hf 0 f0 rfl
    have g1 := hf 1 f1 rfl
    have g2 := hf 2 f2 rfl
    simp [o0, o1, o2, c0, c1, c2] at g0 g1 g2
    obtain ⟨z0, e0, _, w0⟩ := DataW.trod_int h0 g0
    obtain ⟨z1, e1, _, w1⟩ := DataW.trod_int h1 g1
    obtain ⟨s, e2, _, w2⟩ := DataW.trod_string h2 g2
    simp only [List.cons.injEq, and_true] at e0 e1 e2
    subst e0 e1 e2
    refine ⟨[.v (.int .i64 z0), .v (.int .i64 z1), .v (.string s)], ?_, (z0, z1, s.data.toList), ?_, wf_i64 w0, wf_i64 w1, w2⟩
    · simp only [CVRs]
      exact ⟨.v _ rfl, .v _ rfl, .v _ rfl, trivial⟩
    · show _ = [_, _, CV.v (.string (bs s.data.toList))]
      rw [← bs_of s]
end
end Go.Proofs.YtabakkdlcjpjfaaDoor
namespace Go.Proofs.YtabakkdlcjpjfaaDoor
open Go.RowKit Go.ChangeShapes Go.WideShapes Go.IntWalk
set_option linter.unusedSimpArgs false
set_option linter.unusedVariables false

def ValOk (v : V3) : Prop := I64 v.1 ∧ I64 v.2.1 ∧ v.2.2.length ≤ maxLen
theorem vals_of : ∀ {els : List (List CV)}, (∀ el ∈ els, ∃ v : V3, el = [.v (.int .i64 v.1), .v (.int .i64 v.2.1), .v (.string (bs v.2.2))] ∧ I64 v.1 ∧ I64 v.2.1 ∧ v.2.2.length ≤ maxLen) →
    ∃ L : List V3, els = vc L ∧ ∀ v ∈ L, ValOk v
  | [], _ => ⟨[], rfl, by simp⟩
  | el :: els, h => by
    obtain ⟨v, rfl, hv⟩ := h el (by simp)
    obtain ⟨L, rfl, hL⟩ := vals_of (els := els) fun e he => h e (by simp [he])
    refine ⟨v :: L, rfl, fun u hu => ?_⟩
    rcases List.mem_cons.1 hu with rfl | hu
    · exact hv
    · exact hL u hu
theorem vals_arg {H : Type} {enc : TypeId × Value → H} {W : World} {v : Value} {d : DataW H} {ps : List MemPlace} (hval : Value.okWide Tryd.prog W .any 0 22 v) (h : DataW.Trod enc Tryd.prog W 0 (fun _ => true) true 22 v d ps) :
    ∃ L : List V3, CVR W (fun _ => False) (.vs (vc L)) v ∧ (∀ v ∈ L, ValOk v) ∧ L.length ≤ maxLen := by
  obtain ⟨els, h1, h2, h3⟩ := slice_arg Tryd.underlying22 (of_decide_eq_true (by kernel_rfl)) _ (val_cells Tryd.underlying26 (by kernel_rfl) rfl rfl rfl (by kernel_rfl) (by kernel_rfl) (by kernel_rfl) Tryd.underlying3 Tryd.underlying2 Tryd.underlying9) hval h
  obtain ⟨L, rfl, hL⟩ := vals_of h2
  exact ⟨L, h1, hL, by rwa [vc_len] at h3⟩
theorem vals_D {w : World} {L : List V3} {v : Value} (h : CVR w (fun _ => False) (.vs (vc L)) v) : DVR w (fun _ => False) (.c (.vs (vc L))) v := by
  simp only [DVR]; exact h
theorem getD_memV0 (L : List V3) (K : Nat) (h : K < L.length) : L.getD K nul ∈ L := by
  rw [List.getD_eq_getElem?_getD, List.getElem?_eq_getElem h]
  exact List.getElem_mem h
def greatB (L : List V3) : Bool := decide (21 < L.length) || L.any (fun v => decide (5000 < v.2.2.length))
theorem c_great (L : List V3) (hl : L.length ≤ maxLen) : FnC Tryd.prog 8 [.c (.vs (vc L))] (bD (greatB L)) := by
  refine w8 (vc L) ?_
  rw [vc_len]
  have hm : maxLen = 9223372036854775807 := by decide +kernel
  rw [hm] at hl
  refine ⟨fun i m => ∃ K : Nat, i = K ∧ K ≤ L.length ∧ K ≤ 21 ∧ (L.take K).any (fun v => decide (5000 < v.2.2.length)) = false ∧ m = L.length - K, ⟨_, 0, rfl, by omega, by omega, by simp, rfl⟩, ?_⟩
  rintro m i ⟨K, rfl, hK, h21, hn, rfl⟩
  refine ⟨fun hi => ⟨fun _ => by omega, fun _ => vc_sz _, fun _ => vc_k2 _ _ (by omega) (by omega), ?_⟩, fun hi => ?_⟩
  · rw [vc_2 _ _ (by omega) (by omega), Int.toNat_natCast, bs_size]
    refine ⟨fun h => ?_, fun h => ?_⟩
    · have : greatB L = true := by
        unfold greatB
        rcases h with h | h
        · rw [decide_eq_true (by omega)]; rfl
        · rw [List.any_eq_true.2 ⟨_, getD_memV0 L K (by omega), decide_eq_true (by omega)⟩, Bool.or_true]
      rw [this]
    · refine ⟨_, ?_, K + 1, by rw [i64_in _ (by omega)]; omega, by omega, by omega, ?_, rfl⟩
      · omega
      · have h5 : ¬ 5000 < (L.getD K nul).2.2.length := fun h6 => h (.inr (by omega))
        rw [List.take_add_one, List.any_append, hn, Bool.false_or, List.getElem?_eq_getElem (by omega)]
        rw [List.getD_eq_getElem?_getD, List.getElem?_eq_getElem (by omega)] at h5
        simpa using h5
  · have e : K = L.length := by omega
    subst e
    rw [List.take_length] at hn
    have : greatB L = false := by
      unfold greatB
      rw [hn, decide_eq_false (by omega)]; rfl
    rw [this]
end Go.Proofs.YtabakkdlcjpjfaaDoor
namespace Go.Proofs.YtabakkdlcjpjfaaDoor
open Go.RowKit Go.IntWalk
set_option linter.unusedSimpArgs false
set_option linter.unusedVariables false

def kindL (k : Int) : List UInt8 := if k = 1 then [105, 110, 116] else if k = 2 then [116, 101, 120, 116] else if k = 3 then [98, 108, 111, 98] else [110, 117, 108, 108]
theorem c_kind (v : V3) : FnC Tryd.prog 32 [vD v] (sD (kindL v.1)) := by
  refine w32 v.1 v.2.1 (bs v.2.2) ?_
  (try simp only [mk_bs, bs_inj, bs_size, bs_toList, bs_append, byteAt_bs])
  (repeat' (first | with_reducible refine ⟨fun _ => ?_, fun _ => ?_⟩ | fail))
  all_goals (((try simp only [kindL, sD] at *); (repeat' split) <;> (first | rfl | (exfalso; omega) | (simp_all; done) | (simp_all; omega))))
def firstV : List V3 → V3
  | [] => nul
  | v :: L => if v.1 = 0 then firstV L else v
theorem c_open_first (f : List UInt8) (L : List V3) (hl : L.length ≤ 1000000) (hf : f = wCoalesce ∨ f = wIfnull) : FnC Tryd.prog 20 [sD f, .c (.vs (vc L))] (.tup [vD (firstV L), iD 0, bD true]) := by
  refine w20 (bs f) (vc L) ?_
  simp only [mk_bs, bs_inj, vc_len]
  have h1 : f ≠ wTypeof := by rcases hf with rfl | rfl <;> decide
  have h2 : f ≠ wQuote := by rcases hf with rfl | rfl <;> decide
  refine ⟨fun h => absurd h h1, fun _ => ⟨fun h => absurd h h2, fun _ => ⟨fun _ => ?_, fun hn => ⟨fun _ => ?_, fun h => absurd (hf.resolve_left hn) h⟩⟩⟩⟩
  all_goals
    refine ⟨fun x2 x3 x4 x5 k0 => ∃ K : Nat, K ≤ L.length ∧ x5 = (K : Int) - 1 ∧ x2 = (firstV (L.drop K)).1 ∧ x3 = (firstV (L.drop K)).2.1 ∧ x4 = bs (firstV (L.drop K)).2.2 ∧ k0 = K, ⟨_, L.length, by omega, by rw [i64_in _ (by omega)], by rw [List.drop_length]; rfl, by rw [List.drop_length]; rfl, by rw [List.drop_length]; rfl, rfl⟩, ?_⟩
    rintro K x2 x3 x4 x5 ⟨_, hK, rfl, rfl, rfl, rfl, rfl⟩
    refine ⟨fun hi => ⟨by omega, vc_sz _, vc_k0 _ _ (by omega) (by omega), ?_⟩, fun hi => ?_⟩
    · rw [vc_0 _ _ (by omega) (by omega), show ((K : Int) - 1).toNat = K - 1 by omega]
      have hd := drop_v L (K - 1) (by omega)
      rw [show K - 1 + 1 = K by omega] at hd
      refine ⟨fun h => ⟨by omega, vc_sz _, ?_, ?_⟩, fun h => ?_⟩
      · have := vc_k L ((K : Int) - 1) (by omega) (by omega)
        rwa [show ((K : Int) - 1).toNat = K - 1 by omega] at this
      · rw [vc_1 _ _ (by omega) (by omega), vc_2 _ _ (by omega) (by omega), show ((K : Int) - 1).toNat = K - 1 by omega]
        refine ⟨K - 1, by omega, K - 1, by omega, by rw [i64_in _ (by omega)]; omega, ?_, ?_, ?_, rfl⟩ <;> rw [hd, firstV, if_neg h]
      · refine ⟨K - 1, by omega, K - 1, by omega, by rw [i64_in _ (by omega)]; omega, ?_, ?_, ?_, rfl⟩ <;> rw [hd, firstV, if_pos (Classical.not_not.1 h)]
    · rw [show K = 0 by omega, List.drop_zero]
theorem c_open_typeof (v : V3) (L : List V3) : FnC Tryd.prog 20 [sD wTypeof, .c (.vs (vc (v :: L)))] (.tup [vD (2, 0, kindL v.1), iD 0, bD true]) := by
  refine w20 (bs wTypeof) (vc (v :: L)) ?_
  simp only [mk_bs, bs_inj]
  refine ⟨fun _ => ⟨by simp [vc_len], vc_sz _, vc_k _ _ (by omega) (by simp), ?_⟩, fun h => absurd rfl h⟩
  rw [vc_vD _ (0 : Int) (by omega) (by simp)]
  exact ⟨_, c_kind v, _, _, _, _, c_fstr _, rfl⟩
theorem c_open_quote (v : V3) (L : List V3) (hv : Vs v) : FnC Tryd.prog 20 [sD wQuote, .c (.vs (vc (v :: L)))] (.tup [vD (2, 0, quoteL v), iD 0, bD true]) := by
  refine w20 (bs wQuote) (vc (v :: L)) ?_
  simp only [mk_bs, bs_inj]
  refine ⟨fun h => absurd h (by decide), fun _ => ⟨fun _ => ⟨by simp [vc_len], vc_sz _, vc_k _ _ (by omega) (by simp), ?_⟩, fun h => absurd rfl h⟩⟩
  rw [vc_vD _ (0 : Int) (by omega) (by simp)]
  exact ⟨_, c_tQuote v hv.2.1 hv.2.2, _, _, _, _, c_fstr _, rfl⟩
theorem c_open_nullif (a b : V3) (ha : Vs a) (hb : Vs b) : FnC Tryd.prog 20 [sD wNullif, .c (.vs (vc [a, b]))] (.tup [vD (if cmpV a b 0 = 0 then nul else a), iD 0, bD true]) := by
  refine w20 (bs wNullif) (vc [a, b]) ?_
  simp only [mk_bs, bs_inj]
  iterate 4 refine ⟨fun h => absurd h (by decide), fun _ => ?_⟩
  refine ⟨fun _ => ⟨by simp [vc_len], vc_sz _, vc_k _ _ (by omega) (by simp), by simp [vc_len], vc_sz _, vc_k _ _ (by omega) (by simp), ?_⟩, fun h => absurd rfl h⟩
  rw [vc_vD _ (0 : Int) (by omega) (by simp), vc_vD _ (1 : Int) (by omega) (by simp)]
  refine ⟨_, c_vCompare a b 0 ha.2.2.sz hb.2.2.sz, fun h => ⟨by simp [vc_len], vc_sz _, vc_k _ _ (by omega) (by simp), ?_⟩, fun h => ?_⟩
  · rw [if_neg h]; rfl
  · rw [if_pos (Classical.not_not.1 h)]
end Go.Proofs.YtabakkdlcjpjfaaDoor
namespace Go.Proofs.YtabakkdlcjpjfaaDoor
open Go.RowKit Go.IntWalk
set_option linter.unusedSimpArgs false
set_option linter.unusedVariables false

def sizeV (f : List UInt8) (v : V3) : V3 × Int :=
  if v.1 = 1 then (if f = wSign then ((1, if 0 < v.2.1 then 1 else if v.2.1 < 0 then -1 else 0, []), 0) else if v.2.1 = -9223372036854775808 then (nul, 9) else ((1, if v.2.1 < 0 then -v.2.1 else v.2.1, []), 0)) else (nul, 11)
theorem c_size (f : List UInt8) (v : V3) (h : I64 v.2.1) : FnC Tryd.prog 37 [sD f, vD v] (.tup [vD (sizeV f v).1, iD (sizeV f v).2]) := by
  refine w37 (bs f) v.1 v.2.1 (bs v.2.2) ?_
  simp only [mk_bs, bs_inj]
  unfold sizeV
  unfold I64 at h
  refine ⟨fun h1 => by rw [if_neg h1], fun h1 => ?_⟩
  rw [if_pos (Classical.not_not.1 h1)]
  refine ⟨fun h2 => ?_, fun h2 => ⟨fun h3 => ?_, fun h3 => ?_⟩⟩
  · rw [if_pos (show f = wSign from h2)]
    refine ⟨_, _, _, _, c_fnum _, ?_⟩
    have e : (if decide ((if decide (-1 < v.2.1) = true then v.2.1 else -1) < 1) = true then (if decide (-1 < v.2.1) = true then v.2.1 else -1) else 1) = if 0 < v.2.1 then 1 else if v.2.1 < 0 then -1 else 0 := by
      simp only [decide_eq_true_eq]; omega
    rw [← e]
  · rw [if_neg (show ¬ f = wSign from h2), if_pos h3]
  · rw [if_neg (show ¬ f = wSign from h2), if_neg h3]
    refine ⟨_, _, _, _, c_fnum _, ?_⟩
    have e : (if decide (v.2.1 < IntKind.wrap .i64 (0 - v.2.1)) = true then IntKind.wrap .i64 (0 - v.2.1) else v.2.1) = if v.2.1 < 0 then -v.2.1 else v.2.1 := by
      rw [i64_in _ (by omega)]
      simp only [decide_eq_true_eq]; omega
    rw [← e]
/-- without the blanks at its end, at its beginning -/
def trimR (l : List UInt8) : List UInt8 := (l.reverse.dropWhile (· == 32)).reverse
theorem trimR_blank (m : List UInt8) : trimR (m ++ [32]) = trimR m := by simp [trimR]
theorem trimR_other (m : List UInt8) (c : UInt8) (h : c ≠ 32) : trimR (m ++ [c]) = m ++ [c] := by simp [trimR, List.dropWhile_cons, h]
theorem b32 (b : UInt8) : ((b.toNat : Int) = 32) ↔ b = 32 := ⟨fun h => u8_ext (by rw [h]; rfl), fun h => by rw [h]; rfl⟩
theorem c_right (l : List UInt8) (hs : Sm l) : FnC Tryd.prog 45 [sD l] (sD (trimR l)) := by
  unfold Sm at hs
  refine w45 (bs l) ?_
  refine ⟨fun x k => ∃ m : List UInt8, x = bs m ∧ m.length ≤ l.length ∧ trimR l = trimR m ∧ k = m.length, ⟨_, l, rfl, Nat.le_refl _, rfl, rfl⟩, ?_⟩
  rintro k x ⟨m, rfl, hm, ht, rfl⟩
  rw [bs_size, byteAt_bs, b32, ht]
  refine ⟨fun h => by rw [i64_in _ (by omega)]; omega, fun h => ?_, fun h => ?_⟩
  · obtain ⟨h1, h2⟩ := h
    rw [i64_in _ (by omega)] at h2 ⊢
    rw [show ((m.length : Int) - 1).toNat = m.length - 1 by omega] at h2 ⊢
    refine ⟨by omega, m.length - 1, by omega, m.take (m.length - 1), ?_, by rw [List.length_take]; omega, ?_, by rw [List.length_take]; omega⟩
    · rw [bs_extract]; rfl
    · have := take_snoc m (m.length - 1) (by omega)
      rw [show m.length - 1 + 1 = m.length by omega, List.take_length, h2] at this
      rw [← trimR_blank (m.take (m.length - 1)), ← this]
  · by_cases h0 : m.length = 0
    · rw [List.length_eq_zero_iff.1 h0]; rfl
    · have h2 : m.getD (m.length - 1) 0 ≠ 32 := fun e => h ⟨by omega, by rw [i64_in _ (by omega), show ((m.length : Int) - 1).toNat = m.length - 1 by omega]; exact e⟩
      have := take_snoc m (m.length - 1) (by omega)
      rw [show m.length - 1 + 1 = m.length by omega, List.take_length] at this
      have e := trimR_other (m.take (m.length - 1)) _ h2
      rw [← this] at e
      rw [e]
end Go.Proofs.YtabakkdlcjpjfaaDoor
namespace Go.Proofs.YtabakkdlcjpjfaaDoor
open Go.RowKit Go.IntWalk
set_option linter.unusedSimpArgs false
set_option linter.unusedVariables false

def trimL (l : List UInt8) : List UInt8 := l.dropWhile (· == 32)
theorem trimL_len : ∀ l : List UInt8, (trimL l).length ≤ l.length
  | [] => by simp [trimL]
  | a :: t => by
    have := trimL_len t
    unfold trimL at this ⊢
    rw [List.dropWhile_cons]
    split
    · simp only [List.length_cons]; omega
    · exact Nat.le_refl _
theorem trimL_drop : ∀ l : List UInt8, l.drop (l.length - (trimL l).length) = trimL l
  | [] => by simp [trimL]
  | a :: t => by
    have h1 := trimL_len t
    have h2 := trimL_drop t
    unfold trimL at h1 h2 ⊢
    rw [List.dropWhile_cons]
    split
    · rw [List.length_cons, show t.length + 1 - (List.dropWhile (· == 32) t).length = (t.length - (List.dropWhile (· == 32) t).length) + 1 by omega, List.drop_succ_cons, h2]
    · rw [Nat.sub_self, List.drop_zero]
theorem trimL_blank (l : List UInt8) (K : Nat) (hK : K < l.length) (h : l.getD K 0 = 32) : trimL (l.drop K) = trimL (l.drop (K + 1)) := by
  rw [drop_c l K hK, h, trimL, List.dropWhile_cons, if_pos (by decide)]; rfl
theorem trimL_other (l : List UInt8) (K : Nat) (hK : K < l.length) (h : l.getD K 0 ≠ 32) : trimL (l.drop K) = l.drop K := by
  rw [drop_c l K hK, trimL, List.dropWhile_cons, if_neg (by simpa using h)]
theorem c_left (l : List UInt8) (hs : Sm l) : FnC Tryd.prog 46 [sD l] (iD ((l.length : Int) - ((trimL l).length : Int))) := by
  unfold Sm at hs
  refine w46 (bs l) ?_
  rw [bs_size]
  refine ⟨fun x k => ∃ K : Nat, x = K ∧ K ≤ l.length ∧ trimL l = trimL (l.drop K) ∧ k = l.length - K, ⟨_, 0, rfl, by omega, by simp, rfl⟩, ?_⟩
  rintro k x ⟨K, rfl, hK, ht, rfl⟩
  rw [Int.toNat_natCast]
  refine ⟨fun hi => ⟨fun h => ?_, fun h => ?_⟩, fun hi => ?_⟩
  · have h32 : l.getD K 0 ≠ 32 := fun e => h (by rw [dec_low l K (by omega) (by rw [e]; decide), e]; rfl)
    rw [ht, trimL_other l K (by omega) h32, List.length_drop, show (l.length : Int) - ((l.length - K : Nat) : Int) = K by omega]
  · have h32 : l.getD K 0 = 32 := by
      by_cases ha : (l.getD K 0).toNat < 128
      · rw [dec_low l K (by omega) ha] at h
        exact (b32 _).1 (Classical.not_not.1 h)
      · have := dec_high l K (by omega) (by omega)
        omega
    rw [dec_low l K (by omega) (by rw [h32]; decide)]
    exact ⟨l.length - (K + 1), by omega, K + 1, by simp, by omega, by rw [ht, trimL_blank l K (by omega) h32], rfl⟩
  · have e : K = l.length := by omega
    rw [ht, e, List.drop_length, show trimL ([] : List UInt8) = [] from rfl, show (l.length : Int) - (([] : List UInt8).length : Int) = l.length by simp]

def tupR (r : V3 × Int) : DV := .tup [vD r.1, iD r.2]
def fitP (r : V3 × Int) : V3 × Int := if r.2 = 0 ∧ 4096 < (r.1.2.2.length : Int) then (nul, 3) else if r.2 = 0 then (r.1, 0) else (nul, r.2)
theorem fitR_P (r : V3 × Int) : fitR r.1 r.2 = tupR (fitP r) := by
  unfold fitR fitP tupR
  split
  · rfl
  · split <;> rfl
theorem ext_left (l : List UInt8) : (bs l).extract ((l.length : Int) - ((trimL l).length : Int)).toNat ((l.length : Nat) : Int).toNat = bs (trimL l) := by
  have := trimL_len l
  rw [bs_extract, Int.toNat_natCast, List.take_length, show ((l.length : Int) - ((trimL l).length : Int)).toNat = l.length - (trimL l).length by omega, trimL_drop]
section
variable (v : V3) (R : List V3) (hv : Vs v)
include hv
theorem c_call_size (f : List UInt8) (hf : f = wAbs ∨ f = wSign) : FnC Tryd.prog 21 [sD f, .c (.vs (vc (v :: R)))] (tupR (sizeV f v)) := by
  refine w21 (bs f) (vc (v :: R)) ⟨by simp [vc_len], vc_sz _, vc_k _ _ (by omega) (by simp), ?_⟩
  rw [vc_vD _ (0 : Int) (by omega) (by simp), vc_0 _ (0 : Int) (by omega) (by simp)]
  refine ⟨_, c_raw v hv, ?_⟩
  simp only [mk_bs, bs_inj]
  rcases hf with rfl | rfl
  · exact ⟨fun _ => ⟨_, _, _, _, c_size wAbs v hv.2.1, rfl⟩, fun h => absurd rfl h⟩
  · exact ⟨fun h => absurd h (by decide), fun _ => ⟨fun _ => ⟨_, _, _, _, c_size wSign v hv.2.1, rfl⟩, fun h => absurd rfl h⟩⟩
theorem c_call_length : FnC Tryd.prog 21 [sD wLength, .c (.vs (vc (v :: R)))] (tupR ((1, ((rawL v).length : Int), []), 0)) := by
  refine w21 (bs wLength) (vc (v :: R)) ⟨by simp [vc_len], vc_sz _, vc_k _ _ (by omega) (by simp), ?_⟩
  rw [vc_vD _ (0 : Int) (by omega) (by simp), vc_0 _ (0 : Int) (by omega) (by simp)]
  refine ⟨_, c_raw v hv, ?_⟩
  simp only [mk_bs, bs_inj, bs_size]
  iterate 2 refine ⟨fun h => absurd h (by decide), fun _ => ?_⟩
  exact ⟨fun _ => ⟨_, _, _, _, c_fnum _, rfl⟩, fun h => absurd rfl h⟩
theorem c_call_hex : FnC Tryd.prog 21 [sD wHex, .c (.vs (vc (v :: R)))] (tupR ((2, 0, hexL (rawL v)), 0)) := by
  refine w21 (bs wHex) (vc (v :: R)) ⟨by simp [vc_len], vc_sz _, vc_k _ _ (by omega) (by simp), ?_⟩
  rw [vc_vD _ (0 : Int) (by omega) (by simp), vc_0 _ (0 : Int) (by omega) (by simp)]
  refine ⟨_, c_raw v hv, ?_⟩
  simp only [mk_bs, bs_inj]
  iterate 3 refine ⟨fun h => absurd h (by decide), fun _ => ?_⟩
  exact ⟨fun _ => ⟨_, c_tHex (rawL v) (rawL_sm hv), _, _, _, _, c_fstr _, rfl⟩, fun h => absurd rfl h⟩
def letV (v : V3) (s : List UInt8) : V3 × Int := if v.1 = 3 then (nul, 11) else ((2, 0, s), 0)
theorem c_call_upper : FnC Tryd.prog 21 [sD wUpper, .c (.vs (vc (v :: R)))] (tupR (letV v (upL (rawL v)))) := by
  refine w21 (bs wUpper) (vc (v :: R)) ⟨by simp [vc_len], vc_sz _, vc_k _ _ (by omega) (by simp), ?_⟩
  rw [vc_vD _ (0 : Int) (by omega) (by simp), vc_0 _ (0 : Int) (by omega) (by simp)]
  refine ⟨_, c_raw v hv, ?_⟩
  have hc := c_upper (rawL v) (rawL_sm hv).sz
  simp only [mk_bs, bs_inj]
  iterate 8 refine ⟨fun h => absurd h (by decide), fun _ => ?_⟩
  refine ⟨fun h => by rw [letV, if_pos (show v.1 = 3 from h)] <;> rfl, fun h => ?_⟩
  rw [letV, if_neg (show ¬ v.1 = 3 from h)]
  exact ⟨fun _ => ⟨_, hc, _, _, _, _, c_fstr _, rfl⟩, fun h => absurd rfl h⟩
theorem c_call_lower : FnC Tryd.prog 21 [sD wLower, .c (.vs (vc (v :: R)))] (tupR (letV v (foldL (rawL v)))) := by
  refine w21 (bs wLower) (vc (v :: R)) ⟨by simp [vc_len], vc_sz _, vc_k _ _ (by omega) (by simp), ?_⟩
  rw [vc_vD _ (0 : Int) (by omega) (by simp), vc_0 _ (0 : Int) (by omega) (by simp)]
  refine ⟨_, c_raw v hv, ?_⟩
  have hc := c_tFold (rawL v) (rawL_sm hv).sz
  simp only [mk_bs, bs_inj]
  iterate 8 refine ⟨fun h => absurd h (by decide), fun _ => ?_⟩
  refine ⟨fun h => by rw [letV, if_pos (show v.1 = 3 from h)] <;> rfl, fun h => ?_⟩
  rw [letV, if_neg (show ¬ v.1 = 3 from h)]
  iterate 1 refine ⟨fun h => absurd h (by decide), fun _ => ?_⟩
  exact ⟨fun _ => ⟨_, hc, _, _, _, _, c_fstr _, rfl⟩, fun h => absurd rfl h⟩
theorem c_call_trim : FnC Tryd.prog 21 [sD wTrim, .c (.vs (vc (v :: R)))] (tupR (letV v (trimR (trimL (rawL v))))) := by
  refine w21 (bs wTrim) (vc (v :: R)) ⟨by simp [vc_len], vc_sz _, vc_k _ _ (by omega) (by simp), ?_⟩
  rw [vc_vD _ (0 : Int) (by omega) (by simp), vc_0 _ (0 : Int) (by omega) (by simp)]
  refine ⟨_, c_raw v hv, ?_⟩
  have hs := rawL_sm hv
  have hl := trimL_len (rawL v)
  have hs2 : Sm (trimL (rawL v)) := by unfold Sm at hs ⊢; omega
  have hc := c_left (rawL v) hs
  have hr := c_right (trimL (rawL v)) hs2
  simp only [mk_bs, bs_inj]
  iterate 8 refine ⟨fun h => absurd h (by decide), fun _ => ?_⟩
  refine ⟨fun h => by rw [letV, if_pos (show v.1 = 3 from h)] <;> rfl, fun h => ?_⟩
  rw [letV, if_neg (show ¬ v.1 = 3 from h)]
  iterate 2 refine ⟨fun h => absurd h (by decide), fun _ => ?_⟩
  refine ⟨fun _ => ⟨_, hc, ?_⟩, fun h => absurd rfl h⟩
  rw [bs_size, ext_left]
  exact ⟨⟨by omega, by omega, by omega⟩, _, hr, _, _, _, _, c_fstr _, rfl⟩
theorem c_call_ltrim : FnC Tryd.prog 21 [sD wLtrim, .c (.vs (vc (v :: R)))] (tupR (letV v (trimL (rawL v)))) := by
  refine w21 (bs wLtrim) (vc (v :: R)) ⟨by simp [vc_len], vc_sz _, vc_k _ _ (by omega) (by simp), ?_⟩
  rw [vc_vD _ (0 : Int) (by omega) (by simp), vc_0 _ (0 : Int) (by omega) (by simp)]
  refine ⟨_, c_raw v hv, ?_⟩
  have hs := rawL_sm hv
  have hl := trimL_len (rawL v)
  have hc := c_left (rawL v) hs
  simp only [mk_bs, bs_inj]
  iterate 8 refine ⟨fun h => absurd h (by decide), fun _ => ?_⟩
  refine ⟨fun h => by rw [letV, if_pos (show v.1 = 3 from h)] <;> rfl, fun h => ?_⟩
  rw [letV, if_neg (show ¬ v.1 = 3 from h)]
  iterate 3 refine ⟨fun h => absurd h (by decide), fun _ => ?_⟩
  refine ⟨fun _ => ⟨_, hc, ?_⟩, fun h => absurd rfl h⟩
  rw [bs_size, ext_left]
  exact ⟨⟨by omega, by omega, by omega⟩, _, _, _, _, c_fstr _, rfl⟩
theorem c_call_rtrim : FnC Tryd.prog 21 [sD wRtrim, .c (.vs (vc (v :: R)))] (tupR (letV v (trimR (rawL v)))) := by
  refine w21 (bs wRtrim) (vc (v :: R)) ⟨by simp [vc_len], vc_sz _, vc_k _ _ (by omega) (by simp), ?_⟩
  rw [vc_vD _ (0 : Int) (by omega) (by simp), vc_0 _ (0 : Int) (by omega) (by simp)]
  refine ⟨_, c_raw v hv, ?_⟩
  have hs := rawL_sm hv
  have hc := c_right (rawL v) hs
  simp only [mk_bs, bs_inj]
  iterate 8 refine ⟨fun h => absurd h (by decide), fun _ => ?_⟩
  refine ⟨fun h => by rw [letV, if_pos (show v.1 = 3 from h)] <;> rfl, fun h => ?_⟩
  rw [letV, if_neg (show ¬ v.1 = 3 from h)]
  iterate 4 refine ⟨fun h => absurd h (by decide), fun _ => ?_⟩
  exact ⟨_, hc, _, _, _, _, c_fstr _, rfl⟩
end
def instrV (a b : V3) : V3 × Int := if (a.1 = 3) ↔ (b.1 = 3) then ((1, findL (rawL a) (rawL b) 0 + 1, []), 0) else (nul, 11)
theorem instrR_V (a b : V3) : instrR a b = tupR (instrV a b) := by
  unfold instrR instrV tupR
  split <;> rfl
theorem c_call_instr' (v a : V3) (hv : Vs v) (ha : Vs a) : FnC Tryd.prog 21 [sD wInstr, .c (.vs (vc [v, a]))] (tupR (instrV v a)) := by
  refine w21 (bs wInstr) (vc [v, a]) ⟨by simp [vc_len], vc_sz _, vc_k _ _ (by omega) (by simp), ?_⟩
  rw [vc_vD _ _ (by omega) (by simp), vc_vD _ (1 : Int) (by omega) (by simp)]
  refine ⟨_, c_raw v hv, ?_⟩
  have hc := c_instr v a hv ha
  rw [instrR_V] at hc
  simp only [mk_bs, bs_inj]
  iterate 4 refine ⟨fun h => absurd h (by decide), fun _ => ?_⟩
  exact ⟨fun _ => ⟨by simp [vc_len], vc_sz _, vc_k _ _ (by omega) (by simp), _, _, _, _, hc, rfl⟩, fun h => absurd rfl h⟩
noncomputable def likeV (a b : V3) : V3 × Int := if a.1 = 2 ∧ b.1 = 2 then ((1, if likB a.2.2 b.2.2 then 1 else 0, []), 0) else (nul, 11)
theorem c_call_like (v a : V3) (hv : Vs v) (ha : Vs a) : FnC Tryd.prog 21 [sD wLike, .c (.vs (vc [v, a]))] (tupR (likeV v a)) := by
  refine w21 (bs wLike) (vc [v, a]) ⟨by simp [vc_len], vc_sz _, vc_k _ _ (by omega) (by simp), ?_⟩
  rw [vc_vD _ _ (by omega) (by simp)]
  refine ⟨_, c_raw v hv, ?_⟩
  have hc := c_Like v.2.2 a.2.2 hv.2.2 ha.2.2
  simp only [mk_bs, bs_inj]
  iterate 5 refine ⟨fun h => absurd h (by decide), fun _ => ?_⟩
  refine ⟨fun _ => ?_, fun h => absurd rfl h⟩
  rw [vc_0 _ (0 : Int) (by omega) (by simp), vc_0 _ (1 : Int) (by omega) (by simp), vc_2 _ (0 : Int) (by omega) (by simp), vc_2 _ (1 : Int) (by omega) (by simp)]
  refine ⟨fun _ => by simp [vc_len], fun _ => vc_sz _, fun _ => vc_k0 _ _ (by omega) (by simp), fun h => ?_, fun h => ?_⟩
  · rw [likeV, if_neg (fun e => h.elim (fun h => h e.1) (fun h => h e.2))]; rfl
  · rw [likeV, if_pos ⟨Classical.not_not.1 fun e => h (.inl e), Classical.not_not.1 fun e => h (.inr e)⟩]
    exact ⟨by simp [vc_len], vc_sz _, vc_k2 _ _ (by omega) (by simp), _, hc, _, _, _, c_vBool _, rfl⟩
def substrV (v : V3) (R : List V3) : V3 × Int := match R with
  | [a] => if a.1 = 1 then (subV v a.2.1 none, 0) else (nul, 11)
  | [a, b] => if a.1 = 1 ∧ b.1 = 1 then (subV v a.2.1 (some b.2.1), 0) else (nul, 11)
  | _ => (nul, 11)
theorem c_call_substr (v : V3) (R : List V3) (hv : Vs v) (hR : ∀ a ∈ R, Vs a) (hn : R.length = 1 ∨ R.length = 2) : FnC Tryd.prog 21 [sD wSubstr, .c (.vs (vc (v :: R)))] (tupR (substrV v R)) := by
  refine w21 (bs wSubstr) (vc (v :: R)) ⟨by simp [vc_len], vc_sz _, vc_k _ _ (by omega) (by simp), ?_⟩
  rw [vc_vD _ _ (by omega) (by simp)]
  refine ⟨_, c_raw v hv, ?_⟩
  have hc : FnC Tryd.prog 43 [.c (.vs (vc (v :: R)))] (tupR (substrV v R)) := by
    match R, hn with
    | [a], _ =>
      have := c_substr2 v a hv (hR a (by simp))
      unfold tupR substrV
      simp only []
      split
      · rename_i h; rw [if_pos h] at this; exact this
      · rename_i h; rw [if_neg h] at this; exact this
    | [a, b], _ =>
      have := c_substr3 v a b hv (hR a (by simp)) (hR b (by simp))
      unfold tupR substrV
      simp only []
      split
      · rename_i h; rw [if_pos h] at this; exact this
      · rename_i h; rw [if_neg h] at this; exact this
    | [], hn => simp at hn
    | _ :: _ :: _ :: _, hn => simp at hn
  simp only [mk_bs, bs_inj]
  iterate 7 refine ⟨fun h => absurd h (by decide), fun _ => ?_⟩
  exact ⟨fun _ => ⟨_, _, _, _, hc, rfl⟩, fun h => absurd rfl h⟩
end Go.Proofs.YtabakkdlcjpjfaaDoor
namespace Go.Proofs.YtabakkdlcjpjfaaDoor
open Go.RowKit Go.IntWalk
set_option linter.unusedSimpArgs false
set_option linter.unusedVariables false

theorem findL_at (s t : List UInt8) : ∀ i, findL s t i = -1 ∨ ((i : Int) ≤ findL s t i ∧ findL s t i + t.length ≤ s.length) := fun i => by
  induction h : s.length - i using Nat.strongRecOn generalizing i with
  | _ n ih =>
    rw [findL]
    split
    · split
      · right; omega
      · split
        · rcases ih _ (by omega) (i + 1) rfl with h1 | ⟨h1, h2⟩
          · exact .inl h1
          · right; omega
        · exact .inl rfl
    · exact .inl rfl
/-- a text with u in place of each t, from i on -/
def replL (s t u : List UInt8) (i : Nat) : List UInt8 :=
  if h : 0 ≤ findL s t i ∧ 0 < t.length then (s.take (findL s t i).toNat).drop i ++ u ++ replL s t u ((findL s t i).toNat + t.length) else s.drop i
termination_by s.length - i
decreasing_by
  have := findL_at s t i
  omega
/-- the same, until the text is too long -/
def replF (s t u b : List UInt8) (i : Nat) : List UInt8 :=
  if h : (b.length ≤ 4096 ∧ 0 ≤ findL s t i) ∧ 0 < t.length then replF s t u (b ++ (s.take (findL s t i).toNat).drop i ++ u) ((findL s t i).toNat + t.length) else b ++ s.drop i
termination_by s.length - i
decreasing_by
  have := findL_at s t i
  omega
def txt (s : List UInt8) : V3 × Int := ((2, 0, s), 0)
theorem fit_long {s : List UInt8} (h : 4096 < s.length) : fitP (txt s) = (nul, 3) := by
  unfold fitP txt
  rw [if_pos ⟨rfl, by show (4096 : Int) < (s.length : Nat); omega⟩]
theorem fit_F (s t u : List UInt8) : ∀ (n i : Nat), s.length - i ≤ n → ∀ b : List UInt8, fitP (txt (replF s t u b i)) = fitP (txt (b ++ replL s t u i)) := by
  intro n
  induction n using Nat.strongRecOn with
  | _ n ih =>
    intro i hn b
    rw [replF, replL]
    have hf := findL_at s t i
    by_cases h2 : 0 ≤ findL s t i ∧ 0 < t.length
    · by_cases h1 : b.length ≤ 4096
      · rw [dif_pos ⟨⟨h1, h2.1⟩, h2.2⟩, dif_pos h2]
        have := ih (s.length - ((findL s t i).toNat + t.length)) (by omega) _ (Nat.le_refl _) (b ++ (s.take (findL s t i).toNat).drop i ++ u)
        rw [this]
        simp only [List.append_assoc]
      · rw [dif_neg (fun e => h1 e.1.1), dif_pos h2, fit_long (by rw [List.length_append]; omega), fit_long (by rw [List.length_append]; omega)]
    · rw [dif_neg (fun e => h2 ⟨e.1.2, e.2⟩), dif_neg h2]
def replR (s t u : List UInt8) : List UInt8 := if t = [] then s else replL s t u 0
def replC (s t u : List UInt8) : List UInt8 := if t = [] then s else replF s t u [] 0
theorem fit_repl (s t u : List UInt8) : fitP (txt (replC s t u)) = fitP (txt (replR s t u)) := by
  unfold replC replR
  split
  · rfl
  · exact fit_F s t u _ 0 (Nat.le_refl _) []
theorem bc_str' (l : List UInt8) : bs ((bc l).map fun el => UInt8.ofNat (el.getD 0 default).int.toNat) = bs l := bc_str l
def anyB (L : List V3) : Bool := L.any (fun v => v.1 == 3)
def blobR (L : List V3) (s : List UInt8) : V3 × Int := if anyB L = true then (nul, 11) else txt s
theorem anyB_take (L : List V3) (K : Nat) (h : K < L.length) (h1 : anyB (L.take K) = false) (h2 : ¬ (L.getD K nul).1 = 3) : anyB (L.take (K + 1)) = false := by
  unfold anyB at h1 ⊢
  rw [take_v L K h, List.any_append, h1]
  simpa using h2
theorem anyB_yes (L : List V3) (K : Nat) (h : K < L.length) (h2 : (L.getD K nul).1 = 3) : anyB L = true := by
  unfold anyB
  exact List.any_eq_true.2 ⟨_, getD_memV L K h, by simpa using h2⟩
set_option maxHeartbeats 1000000 in
theorem c_replace (v a b : V3) (hv : Vs v) (ha : Vs a) (hb : Vs b) : FnC Tryd.prog 42 [.c (.vs (vc [v, a, b]))] (tupR (blobR [v, a, b] (replC (rawL v) (rawL a) (rawL b)))) := by
  have hc0 := c_raw v hv
  have hc1 := c_raw a ha
  have hc2 := c_raw b hb
  have s0 := rawL_sm hv
  have s1 := rawL_sm ha
  have s2 := rawL_sm hb
  refine w42 (vc [v, a, b]) ?_
  rw [vc_len]
  refine ⟨fun i m => ∃ K : Nat, i = K ∧ K ≤ 3 ∧ anyB ([v, a, b].take K) = false ∧ m = 3 - K, ⟨_, 0, rfl, by omega, rfl, rfl⟩, ?_⟩
  rintro m i ⟨K, rfl, hK, hn, rfl⟩
  have hl : [v, a, b].length = 3 := rfl
  refine ⟨fun hi => ⟨by omega, vc_sz _, vc_k _ _ (by omega) (by omega), ?_⟩, fun hi => ?_⟩
  · rw [vc_0 _ _ (by omega) (by omega), Int.toNat_natCast]
    refine ⟨fun h => ?_, fun h => ?_⟩
    · rw [blobR, if_pos (anyB_yes _ K (by omega) h)]; rfl
    · refine ⟨_, ?_, K + 1, by rw [i64_in _ (by omega)]; omega, by omega, anyB_take _ K (by omega) hn h, rfl⟩
      omega
  · have e : K = 3 := by omega
    subst e
    rw [blobR, if_neg (by rw [show anyB [v, a, b] = false from hn]; simp)]
    rw [vc_vD _ (0 : Int) (by omega) (by simp), vc_vD _ (1 : Int) (by omega) (by simp), vc_vD _ (2 : Int) (by omega) (by simp)]
    refine ⟨by omega, vc_sz _, vc_k _ _ (by omega) (by simp), _, hc0, by omega, vc_sz _, vc_k _ _ (by omega) (by simp), _, hc1, by omega, vc_sz _, vc_k _ _ (by omega) (by simp), _, hc2, ?_⟩
    generalize rawL v = s at *
    generalize rawL a = t at *
    generalize rawL b = u at *
    clear hc0 hc1 hc2
    unfold Sm at s0 s1 s2
    simp only [mk_bs, bs_inj, bs_size]
    refine ⟨fun h => ?_, fun h => ?_⟩
    · rw [replC, if_pos h]
      exact ⟨_, _, _, _, c_fstr _, rfl⟩
    · rw [replC, if_neg h]
      have ht : 0 < t.length := List.length_pos_iff.2 h
      refine ⟨fun rows i m => ∃ (bb : List UInt8) (I : Nat), rows = bc bb ∧ i = I ∧ I ≤ s.length ∧ bb.length ≤ 3000000 ∧ replF s t u [] 0 = replF s t u bb I ∧ m = s.length - I, ⟨_, [], 0, rfl, rfl, by omega, by simp, rfl, rfl⟩, ?_⟩
      rintro m rows i ⟨bb, I, rfl, rfl, hI, hbb, hr, rfl⟩
      have hf := findL_at s t I
      rw [bc_len]
      have he : ∀ n, ((bs s).extract (I : Int).toNat n) = bs ((s.take n).drop I) := fun n => by rw [bs_extract, Int.toNat_natCast]
      have hlen : ∀ n, ((s.take n).drop I).length ≤ s.length := fun n => by rw [List.length_drop, List.length_take]; omega
      have hlast : (s.take s.length).drop I = s.drop I := by rw [List.take_length]
      refine ⟨fun h1 => ⟨_, c_find s t I s0 s1 hI, fun h2 => ?_, fun h2 => ?_⟩, fun h1 => ?_⟩
      · rw [he, bs_size, Int.toNat_natCast]
        have := hlen s.length
        refine ⟨by omega, by omega, ?_⟩
        rintro x8 rfl
        rw [bc_bs, bc_app]
        refine ⟨bc_all _, ?_⟩
        rw [bc_str', hlast, hr, replF, dif_neg (fun e => by omega)]
        exact ⟨_, _, _, _, c_fstr _, rfl⟩
      · rw [he, bs_size]
        have := hlen (findL s t I).toNat
        refine ⟨by omega, by omega, ?_⟩
        rintro x8 rfl
        rw [bc_bs, bc_app, bc_len, List.length_append]
        refine ⟨by omega, ?_⟩
        rintro x9 rfl
        rw [bc_bs, bc_app]
        refine ⟨s.length - ((findL s t I).toNat + t.length), by omega, _, (findL s t I).toNat + t.length, rfl, by rw [i64_in _ (by omega)]; omega, by omega, ?_, ?_, rfl⟩
        · simp only [List.length_append]; omega
        · rw [hr, replF, dif_pos ⟨⟨by omega, by omega⟩, ht⟩]
      · rw [he, bs_size, Int.toNat_natCast]
        have := hlen s.length
        refine ⟨by omega, by omega, ?_⟩
        rintro x8 rfl
        rw [bc_bs, bc_app]
        refine ⟨bc_all _, ?_⟩
        rw [bc_str', hlast, hr, replF, dif_neg (fun e => by omega)]
        exact ⟨_, _, _, _, c_fstr _, rfl⟩
theorem c_call_replace (v a b : V3) (hv : Vs v) (ha : Vs a) (hb : Vs b) : FnC Tryd.prog 21 [sD wReplace, .c (.vs (vc [v, a, b]))] (tupR (blobR [v, a, b] (replC (rawL v) (rawL a) (rawL b)))) := by
  refine w21 (bs wReplace) (vc [v, a, b]) ⟨by simp [vc_len], vc_sz _, vc_k _ _ (by omega) (by simp), ?_⟩
  rw [vc_vD _ _ (by omega) (by simp)]
  refine ⟨_, c_raw v hv, ?_⟩
  have hc := c_replace v a b hv ha hb
  simp only [mk_bs, bs_inj]
  iterate 6 refine ⟨fun h => absurd h (by decide), fun _ => ?_⟩
  exact ⟨fun _ => ⟨_, _, _, _, hc, rfl⟩, fun h => absurd rfl h⟩
theorem fit_blob (L : List V3) (s t : List UInt8) (h : fitP (txt s) = fitP (txt t)) : fitP (blobR L s) = fitP (blobR L t) := by
  unfold blobR
  split
  · rfl
  · exact h
end Go.Proofs.YtabakkdlcjpjfaaDoor
namespace Go.Proofs.YtabakkdlcjpjfaaDoor
open Go.RowKit Go.IntWalk
set_option linter.unusedSimpArgs false
set_option linter.unusedVariables false

theorem c_rbytes (v : V3) (h : I64 v.2.1) : FnC Tryd.prog 50 [vD v] (sD (rawL v)) := by
  refine w50 v.1 v.2.1 (bs v.2.2) ?_
  unfold rawL
  refine ⟨fun e => ⟨_, c_r3Num v.2.1 h, ?_⟩, fun e => ?_⟩ <;> simp [e, sD]
theorem c_rfit (v : V3) : FnC Tryd.prog 47 [vD v] (tupR (fitP (v, 0))) := by
  refine w47 v.1 v.2.1 (bs v.2.2) ?_
  rw [bs_size]
  unfold fitP
  refine ⟨fun h => by rw [if_pos ⟨rfl, h⟩] <;> rfl, fun h => by rw [if_neg (fun e => h e.2), if_pos rfl] <;> rfl⟩
theorem c_rstr (s : List UInt8) : FnC Tryd.prog 23 [sD s] (tupR (fitP (txt s))) :=
  w23 (bs s) ⟨_, _, _, _, c_rfit (2, 0, s), rfl⟩
theorem c_rnum (n : Int) : FnC Tryd.prog 53 [iD n] (tupR ((1, n, []), 0)) := by
  refine w53 n ?_
  (try simp only [mk_bs, bs_inj, bs_size, bs_toList, bs_append, byteAt_bs])
  (repeat' (first | with_reducible refine ⟨fun _ => ?_, fun _ => ?_⟩ | fail))
  all_goals (rfl)
theorem fit_num (n : Int) : fitP ((1, n, []), 0) = ((1, n, []), 0) := rfl

/-- rows of texts -/
def scs (l : List (List UInt8)) : List (List CV) := l.map fun s => [.v (.string (bs s))]
theorem scs_len (l : List (List UInt8)) : (scs l).length = l.length := by simp [scs]
theorem scs_get (l : List (List UInt8)) (i : Nat) (h : i < l.length) : (scs l).getD i [] = [.v (.string (bs (l.getD i [])))] := by simp [scs, h]
theorem scs_k (l : List (List UInt8)) (i : Int) (h0 : 0 ≤ i) (h : i < l.length) : [10] = ((((scs l).getD i.toNat []).drop 0).take 1).map kindC := by rw [scs_get l _ (by omega)]; rfl
theorem scs_0 (l : List (List UInt8)) (i : Int) (h0 : 0 ≤ i) (h : i < l.length) : (cellAt (scs l) i 0).str = bs (l.getD i.toNat []) := by simp only [cellAt]; rw [scs_get l _ (by omega)]; rfl

def ones : List (List UInt8) := [wAbs, wSign, wLength, wUpper, wLower, wTrim, wLtrim, wRtrim, wHex, wQuote, wTypeof]
def arityL (f : List UInt8) : Int × Int :=
  if f ∈ ones then (1, 1)
  else if f = wInstr ∨ f = wIfnull ∨ f = wNullif ∨ f = wLike then (2, 2)
  else if f = wReplace then (3, 3)
  else if f = wSubstr then (2, 3)
  else if f = wCoalesce ∨ f = wConcat then (1, 9223372036854775807)
  else (0, 0)
theorem c_arity (f : List UInt8) : FnC Tryd.prog 29 [sD f] (.tup [iD (arityL f).1, iD (arityL f).2]) := by
  refine w29 (bs f) ?_
  intro x1 h1
  obtain rfl : x1 = scs ones := h1
  rw [scs_len]
  have hl : ones.length = 11 := rfl
  refine ⟨fun i m => ∃ K : Nat, i = K ∧ K ≤ 11 ∧ f ∉ ones.take K ∧ m = 11 - K, ⟨_, 0, rfl, by omega, by simp, rfl⟩, ?_⟩
  rintro m i ⟨K, rfl, hK, hn, rfl⟩
  refine ⟨fun hi => ⟨by omega, scs_k _ _ (by omega) (by omega), ?_⟩, fun hi => ?_⟩
  · rw [scs_0 _ _ (by omega) (by omega), bs_inj, Int.toNat_natCast]
    have hg : ones.getD K [] = ones[K]'(by omega) := by rw [List.getD_eq_getElem?_getD, List.getElem?_eq_getElem (by omega)]; rfl
    rw [hg]
    refine ⟨fun h => ?_, fun h => ?_⟩
    · have : f ∈ ones := by rw [h]; exact List.getElem_mem _
      rw [arityL, if_pos this] <;> rfl
    · refine ⟨_, ?_, K + 1, by rw [i64_in _ (by omega)]; omega, by omega, ?_, rfl⟩
      · omega
      · rw [List.take_succ_eq_append_getElem (by omega)]
        intro hm
        rcases List.mem_append.1 hm with hm | hm
        · exact hn hm
        · exact h (by simpa using hm)
  · have e : K = 11 := by omega
    subst e
    have hn : f ∉ ones := hn
    unfold arityL
    rw [if_neg hn]
    simp only [mk_bs, bs_inj]
    simp only [wInstr, wIfnull, wNullif, wLike, wReplace, wSubstr, wCoalesce, wConcat]
    (repeat' (first | with_reducible refine ⟨fun _ => ?_, fun _ => ?_⟩ | fail))
    all_goals first
      | (rename_i h; subst h; rfl)
      | (simp [*]; done)
      | fail
theorem c_rKnown (op : List UInt8) (n : Int) (hop : Sm op) (hn : n ≤ 9223372036854775807) : FnC Tryd.prog 13 [sD op, iD n] (bD (knownB (foldL op) n)) := by
  refine w13 (bs op) n ⟨bs (foldL op), c_r3Fold op hop, _, _, c_arity (foldL op), ?_⟩
  generalize foldL op = f
  refine congrArg bD ?_
  unfold arityL knownB
  have e : f ∈ ones ↔ (f = wAbs ∨ f = wSign ∨ f = wLength ∨ f = wUpper ∨ f = wLower ∨ f = wTrim ∨ f = wLtrim ∨ f = wRtrim ∨ f = wHex ∨ f = wQuote ∨ f = wTypeof) := by simp [ones]
  by_cases h0 : f ∈ ones
  · rw [if_pos h0, if_pos (e.1 h0), Bool.eq_iff_iff]; simp; omega
  rw [if_neg h0, if_neg (fun x => h0 (e.2 x))]
  by_cases h1 : f = wInstr ∨ f = wIfnull ∨ f = wNullif ∨ f = wLike
  · rw [if_pos h1, if_pos h1, Bool.eq_iff_iff]; simp; omega
  rw [if_neg h1, if_neg h1]
  by_cases h2 : f = wReplace
  · rw [if_pos h2, if_pos h2, Bool.eq_iff_iff]; simp; omega
  rw [if_neg h2, if_neg h2]
  by_cases h3 : f = wSubstr
  · rw [if_pos h3, if_pos h3, Bool.eq_iff_iff]; simp; omega
  rw [if_neg h3, if_neg h3]
  by_cases h4 : f = wCoalesce ∨ f = wConcat
  · rw [if_pos h4, if_pos h4, Bool.eq_iff_iff]; simp; omega
  rw [if_neg h4, if_neg h4]
  rfl

theorem c_rat (s t : List UInt8) (i : Nat) (hs : Sm s) (ht : Sm t) (hi : i ≤ s.length) : FnC Tryd.prog 54 [sD s, sD t, iD i] (iD (findL s t i)) := by
  refine w54 (bs s) (bs t) i ?_
  unfold Sm at hs ht
  simp only [bs_size, bs_extract, bs_inj]
  refine ⟨fun j m => ∃ J : Nat, j = J ∧ J ≤ s.length + 1 ∧ findL s t i = findL s t J ∧ m = s.length + 1 - J, ⟨_, i, rfl, by omega, rfl, rfl⟩, ?_⟩
  rintro m j ⟨J, rfl, hJ, hf, rfl⟩
  rw [i64_in ((J : Int) + t.length) (by omega), show ((J : Int) + t.length).toNat = J + t.length by omega, Int.toNat_natCast]
  rw [hf, findL]
  have e : (s.take (J + t.length)).drop J = (s.drop J).take t.length := by rw [List.drop_take]; congr 1; omega
  rw [e]
  refine ⟨fun h => ⟨by omega, fun h2 => ?_, fun h2 => ?_⟩, fun h => ?_⟩
  · rw [dif_pos (by omega), if_pos h2]
  · have h3 : J < s.length := by
      by_cases h4 : J < s.length
      · exact h4
      · exfalso
        apply h2
        have : t.length = 0 := by omega
        rw [List.length_eq_zero_iff.1 this]; simp
    refine ⟨_, ?_, J + 1, by rw [i64_in _ (by omega)]; omega, by omega, ?_, rfl⟩
    · omega
    · rw [dif_pos (by omega), if_neg h2, dif_pos h3]
  · rw [dif_neg (by omega)]

theorem c_sized (f : List UInt8) (v : V3) (h : I64 v.2.1) (hv : v.1 = 1) (hf : f = wAbs ∨ f = wSign) : FnC Tryd.prog 55 [sD f, iD v.2.1] (tupR (sizeV f v)) := by
  refine w55 (bs f) v.2.1 ?_
  unfold I64 at h
  simp only [mk_bs, bs_inj]
  unfold sizeV
  rw [if_pos hv]
  rcases hf with rfl | rfl
  · refine ⟨fun _ => ?_, fun h => absurd rfl h⟩
    rw [if_neg (by decide)]
    refine ⟨fun h2 => ?_, fun h2 => ?_⟩
    · obtain ⟨h3, h4⟩ := h2
      rw [i64_in (v.2.1 + 1) (by omega), i64_in _ (by omega)] at h4
      rw [if_pos (by omega)] <;> rfl
    · have h3 : ¬ v.2.1 = -9223372036854775808 := fun e => h2 ⟨by omega, by rw [i64_in (v.2.1 + 1) (by omega), i64_in _ (by omega)]; omega⟩
      rw [if_neg h3, i64_in _ (by omega)]
      have e : (if decide (v.2.1 < 0 - v.2.1) = true then 0 - v.2.1 else v.2.1) = if v.2.1 < 0 then -v.2.1 else v.2.1 := by
        simp only [decide_eq_true_eq]; omega
      rw [e]; rfl
  · refine ⟨fun h => absurd h (by decide), fun _ => ?_⟩
    rw [if_pos rfl]
    refine ⟨fun h2 => ?_, fun h2 => ⟨fun h3 => ?_, fun h3 => ?_⟩⟩
    · rw [if_pos h2]; exact ⟨_, _, _, _, c_rnum 1, rfl⟩
    · rw [if_neg h2, if_pos h3]; exact ⟨_, _, _, _, c_rnum (-1), rfl⟩
    · rw [if_neg h2, if_neg h3]; exact ⟨_, _, _, _, c_rnum 0, rfl⟩

theorem small_at (K : Nat) (h : K < 26) : ((⟨#[97, 98, 99, 100, 101, 102, 103, 104, 105, 106, 107, 108, 109, 110, 111, 112, 113, 114, 115, 116, 117, 118, 119, 120, 121, 122]⟩ : ByteArray).extract K (K + 1)) = bs [UInt8.ofNat (97 + K)] := by
  have : ∀ K : Fin 26, ((⟨#[97, 98, 99, 100, 101, 102, 103, 104, 105, 106, 107, 108, 109, 110, 111, 112, 113, 114, 115, 116, 117, 118, 119, 120, 121, 122]⟩ : ByteArray).extract K.1 (K.1 + 1)) = bs [UInt8.ofNat (97 + K.1)] := by decide +kernel
  exact this ⟨K, h⟩
theorem large_at (K : Nat) (h : K < 26) : ((⟨#[65, 66, 67, 68, 69, 70, 71, 72, 73, 74, 75, 76, 77, 78, 79, 80, 81, 82, 83, 84, 85, 86, 87, 88, 89, 90]⟩ : ByteArray).extract K (K + 1)) = bs [UInt8.ofNat (65 + K)] := by
  have : ∀ K : Fin 26, ((⟨#[65, 66, 67, 68, 69, 70, 71, 72, 73, 74, 75, 76, 77, 78, 79, 80, 81, 82, 83, 84, 85, 86, 87, 88, 89, 90]⟩ : ByteArray).extract K.1 (K.1 + 1)) = bs [UInt8.ofNat (65 + K.1)] := by decide +kernel
  exact this ⟨K, h⟩
theorem turn_tab (K : Nat) (h : K < 26) : upp (UInt8.ofNat (97 + K)) = UInt8.ofNat (65 + K) ∧ upp (UInt8.ofNat (65 + K)) = UInt8.ofNat (65 + K) ∧ low (UInt8.ofNat (97 + K)) = UInt8.ofNat (97 + K) ∧ low (UInt8.ofNat (65 + K)) = UInt8.ofNat (97 + K) := by
  have : ∀ K : Fin 26, upp (UInt8.ofNat (97 + K.1)) = UInt8.ofNat (65 + K.1) ∧ upp (UInt8.ofNat (65 + K.1)) = UInt8.ofNat (65 + K.1) ∧ low (UInt8.ofNat (97 + K.1)) = UInt8.ofNat (97 + K.1) ∧ low (UInt8.ofNat (65 + K.1)) = UInt8.ofNat (97 + K.1) := by decide +kernel
  exact this ⟨K, h⟩
theorem turn_else (c : UInt8) (h : ∀ j, j < 26 → c ≠ UInt8.ofNat (97 + j) ∧ c ≠ UInt8.ofNat (65 + j)) : upp c = c ∧ low c = c := by
  have e : ∀ c : UInt8, (∀ j : Fin 26, c ≠ UInt8.ofNat (97 + j.1) ∧ c ≠ UInt8.ofNat (65 + j.1)) → upp c = c ∧ low c = c := by
    intro c
    have : ∀ n : Fin 256, (∀ j : Fin 26, UInt8.ofNat n.1 ≠ UInt8.ofNat (97 + j.1) ∧ UInt8.ofNat n.1 ≠ UInt8.ofNat (65 + j.1)) → upp (UInt8.ofNat n.1) = UInt8.ofNat n.1 ∧ low (UInt8.ofNat n.1) = UInt8.ofNat n.1 := by decide +kernel
    have h2 := this ⟨c.toNat, c.toNat_lt⟩
    simp only [UInt8.ofNat_toNat] at h2
    exact h2
  exact e c fun j => h j.1 j.2
theorem c_turned (c : UInt8) (up : Bool) : FnC Tryd.prog 56 [sD [c], bD up] (sD [if up then upp c else low c]) := by
  refine w56 (bs [c]) up ?_
  refine ⟨fun i m => ∃ K : Nat, i = K ∧ K ≤ 26 ∧ (∀ j, j < K → c ≠ UInt8.ofNat (97 + j) ∧ c ≠ UInt8.ofNat (65 + j)) ∧ m = 26 - K, ⟨_, 0, rfl, by omega, fun j h => by omega, rfl⟩, ?_⟩
  rintro m i ⟨K, rfl, hK, hn, rfl⟩
  refine ⟨fun hi => ?_, fun hi => ?_⟩
  · rw [i64_in _ (by omega), Int.toNat_natCast, show ((K : Int) + 1).toNat = K + 1 by omega, small_at K (by omega), large_at K (by omega), bs_inj, bs_inj]
    obtain ⟨t1, t2, t3, t4⟩ := turn_tab K (by omega)
    refine ⟨by omega, fun _ => by omega, fun h => ⟨fun hu => ⟨by omega, ?_⟩, fun hu => ⟨by omega, ?_⟩⟩, fun h => ⟨_, ?_, K + 1, by omega, by omega, ?_, rfl⟩⟩
    · subst hu
      rcases h with h | h
      · simp only [List.cons.injEq, and_true] at h
        subst h
        rw [if_pos rfl, t1]
      · simp only [List.cons.injEq, and_true] at h
        subst h
        rw [if_pos rfl, t2]
    · rw [if_neg hu]
      rcases h with h | h
      · simp only [List.cons.injEq, and_true] at h
        subst h
        rw [t3]
      · simp only [List.cons.injEq, and_true] at h
        subst h
        rw [t4]
    · omega
    · intro j hj
      by_cases e : j = K
      · subst e
        exact ⟨fun e => h (.inl (by rw [e])), fun e => h (.inr (by rw [e]))⟩
      · exact hn j (by omega)
  · have e : K = 26 := by omega
    subst e
    obtain ⟨h1, h2⟩ := turn_else c hn
    rw [h1, h2, ite_self]
end Go.Proofs.YtabakkdlcjpjfaaDoor
namespace Go.Proofs.YtabakkdlcjpjfaaDoor
open Go.RowKit Go.IntWalk
set_option linter.unusedSimpArgs false
set_option linter.unusedVariables false

def trA (f l : List UInt8) : List UInt8 := if f = wRtrim then l else trimL l
def trB (f l : List UInt8) : List UInt8 := if f = wLtrim then l else trimR l
def turnL (f : List UInt8) (c : UInt8) : UInt8 := if (f == wUpper) then upp c else low c
def singleV (f : List UInt8) (v : V3) : V3 × Int :=
  if f = wLength then ((1, ((rawL v).length : Int), []), 0)
  else if f = wHex then txt (hexL (rawL v))
  else if f = wAbs ∨ f = wSign then sizeV f v
  else letV v (if f = wUpper ∨ f = wLower then (rawL v).map (turnL f) else trB f (trA f (rawL v)))
theorem fit_size (f : List UInt8) (v : V3) : fitP (sizeV f v) = sizeV f v := by
  unfold sizeV
  split
  · split
    · rfl
    · split <;> rfl
  · rfl
theorem trimR_last (m : List UInt8) (h0 : 0 < m.length) : m = m.take (m.length - 1) ++ [m.getD (m.length - 1) 0] := by
  have := take_snoc m (m.length - 1) (by omega)
  rw [show m.length - 1 + 1 = m.length by omega, List.take_length] at this
  exact this
theorem c_rsingle (f : List UInt8) (v : V3) (hv : Vs v) : FnC Tryd.prog 28 [sD f, vD v] (tupR (fitP (singleV f v))) := by
  have hb := c_rbytes v hv.2.1
  have hs := rawL_sm hv
  refine w28 (bs f) v.1 v.2.1 (bs v.2.2) ?_
  simp only [mk_bs, bs_inj, bs_toList]
  unfold singleV
  refine ⟨fun h => ?_, fun h0 => ?_⟩
  · rw [if_pos (show f = wLength from h)]
    refine ⟨_, hb, ?_⟩
    rw [bs_size]
    exact ⟨_, _, _, _, c_rnum _, rfl⟩
  rw [if_neg (show ¬ f = wLength from h0)]
  refine ⟨fun h => ?_, fun h1 => ?_⟩
  · rw [if_pos (show f = wHex from h)]
    exact ⟨_, hb, _, c_r3Hex _ hs, _, _, _, _, c_rstr _, rfl⟩
  rw [if_neg (show ¬ f = wHex from h1)]
  have hsz : ∀ hf : f = wAbs ∨ f = wSign, ∀ h : v.1 = 1, FnC Tryd.prog 55 [sD f, iD v.2.1] (tupR (fitP (sizeV f v))) := fun hf h => by
    rw [fit_size]; exact c_sized f v hv.2.1 h hf
  refine ⟨fun h => ⟨fun hk => ?_, fun hk => ?_⟩, fun h2 => ?_⟩
  · rw [if_pos (.inl (show f = wAbs from h)), sizeV, if_neg hk]; rfl
  · rw [if_pos (.inl (show f = wAbs from h))]
    exact ⟨_, _, _, _, hsz (.inl h) (Classical.not_not.1 hk), rfl⟩
  refine ⟨fun h => ⟨fun hk => ?_, fun hk => ?_⟩, fun h3 => ?_⟩
  · rw [if_pos (.inr (show f = wSign from h)), sizeV, if_neg hk]; rfl
  · rw [if_pos (.inr (show f = wSign from h))]
    exact ⟨_, _, _, _, hsz (.inr h) (Classical.not_not.1 hk), rfl⟩
  rw [if_neg (fun e : f = wAbs ∨ f = wSign => e.elim h2 h3)]
  unfold letV
  refine ⟨fun hk => ?_, fun hk => ?_⟩
  · rw [if_pos hk]; rfl
  rw [if_neg hk]
  refine ⟨_, hb, ?_⟩
  unfold Sm at hs
  generalize rawL v = l at *
  refine ⟨fun hu => ?_, fun hu => ?_⟩
  · rw [if_pos (show f = wUpper ∨ f = wLower from hu)]
    simp only [bs_size]
    refine ⟨fun x i k => ∃ K : Nat, i = K ∧ K ≤ l.length ∧ x = bs ((l.take K).map (turnL f)) ∧ k = l.length - K, ⟨_, 0, rfl, by omega, rfl, rfl⟩, ?_⟩
    rintro k x i ⟨K, rfl, hK, rfl, rfl⟩
    refine ⟨fun hi => ?_, fun hi => ?_⟩
    · rw [i64_in _ (by omega), Int.toNat_natCast, show ((K : Int) + 1).toNat = K + 1 by omega]
      have e : (bs l).extract K (K + 1) = bs [l.getD K 0] := by
        rw [bs_extract, take_s l K (by omega), List.drop_append_of_le_length (by rw [List.length_take]; omega), List.drop_of_length_le (by rw [List.length_take]; omega)]; rfl
      rw [e]
      refine ⟨by omega, _, c_turned (l.getD K 0) (f == wUpper), ?_, l.length - (K + 1), by omega, K + 1, by omega, by omega, ?_, rfl⟩
      · simp only [bs_size, List.length_map, List.length_take, List.length_cons, List.length_nil]; omega
      · rw [bs_append, take_s l K (by omega), List.map_append]; rfl
    · have e : K = l.length := by omega
      subst e
      rw [List.take_length]
      exact ⟨_, _, _, _, c_rstr _, rfl⟩
  · rw [if_neg (show ¬ (f = wUpper ∨ f = wLower) from hu)]
    refine ⟨fun x k => ∃ m : List UInt8, x = bs m ∧ m.length ≤ l.length ∧ trA f l = trA f m ∧ k = m.length, ⟨_, l, rfl, Nat.le_refl _, rfl, rfl⟩, ?_⟩
    rintro k x ⟨m, rfl, hm, ht, rfl⟩
    simp only [bs_size, byteAt_bs, b32]
    refine ⟨fun h => by omega, fun h => ?_, fun h => ?_⟩
    · obtain ⟨⟨h4, h5⟩, h6⟩ := h
      refine ⟨by omega, m.length - 1, by omega, m.drop 1, ?_, by rw [List.length_drop]; omega, ?_, by rw [List.length_drop]⟩
      · rw [bs_extract, Int.toNat_natCast, List.take_length]; rfl
      · rw [ht]
        unfold trA
        rw [if_neg (show ¬ f = wRtrim from h4), if_neg (show ¬ f = wRtrim from h4)]
        exact trimL_blank m 0 (by omega) h6
    · have hA : trA f m = m := by
        unfold trA
        split
        · rfl
        · rename_i h4
          by_cases h5 : 0 < m.length
          · have := trimL_other m 0 h5 (fun e => h ⟨⟨h4, by omega⟩, e⟩)
            rwa [List.drop_zero] at this
          · rw [List.length_eq_zero_iff.1 (show m.length = 0 by omega)]; rfl
      rw [ht, hA]
      clear h hA
      refine ⟨fun x k => ∃ m2 : List UInt8, x = bs m2 ∧ m2.length ≤ m.length ∧ trB f m = trB f m2 ∧ k = m2.length, ⟨_, m, rfl, Nat.le_refl _, rfl, rfl⟩, ?_⟩
      rintro k x ⟨m2, rfl, hm2, ht2, rfl⟩
      simp only [bs_size, byteAt_bs, b32]
      refine ⟨fun h => by rw [i64_in _ (by omega)]; omega, fun h => ?_, fun h => ?_⟩
      · obtain ⟨⟨h4, h5⟩, h6⟩ := h
        rw [i64_in _ (by omega)] at h6 ⊢
        rw [show ((m2.length : Int) - 1).toNat = m2.length - 1 by omega] at h6 ⊢
        refine ⟨by omega, m2.length - 1, by omega, m2.take (m2.length - 1), ?_, by rw [List.length_take]; omega, ?_, by rw [List.length_take]; omega⟩
        · rw [bs_extract]; rfl
        · rw [ht2]
          unfold trB
          rw [if_neg (show ¬ f = wLtrim from h4), if_neg (show ¬ f = wLtrim from h4)]
          have := trimR_last m2 (by omega)
          rw [h6] at this
          rw [← trimR_blank (m2.take (m2.length - 1)), ← this]
      · have hB : trB f m2 = m2 := by
          unfold trB
          split
          · rfl
          · rename_i h4
            by_cases h5 : 0 < m2.length
            · have h6 : m2.getD (m2.length - 1) 0 ≠ 32 := fun e => h ⟨⟨h4, by omega⟩, by rw [i64_in _ (by omega), show ((m2.length : Int) - 1).toNat = m2.length - 1 by omega]; exact e⟩
              have := trimR_last m2 (by omega)
              have e := trimR_other (m2.take (m2.length - 1)) _ h6
              rw [← this] at e
              exact e
            · rw [List.length_eq_zero_iff.1 (show m2.length = 0 by omega)]; rfl
        rw [ht2, hB]
        exact ⟨_, _, _, _, c_rstr _, rfl⟩

theorem c_rconcat (L : List V3) (hL : ∀ v ∈ L, Vs v) (hz : ∀ v ∈ L, v.1 = 0 → v.2.2 = []) (hl : L.length ≤ 1000000) : FnC Tryd.prog 25 [.c (.vs (vc L))] (tupR (fitP (catR L))) := by
  refine w25 (vc L) ?_
  rw [vc_len]
  refine ⟨fun x i m => ∃ (K : Nat) (o : List UInt8), i = K ∧ K ≤ L.length ∧ x = bs o ∧ o.length ≤ 2000000 ∧ (o = catL (L.take K) ∨ (4096 < o.length ∧ 4096 < (catL (L.take K)).length)) ∧ anyB (L.take K) = false ∧ m = L.length - K, ⟨_, 0, [], rfl, by omega, rfl, by simp, .inl rfl, rfl, rfl⟩, ?_⟩
  rintro m x i ⟨K, o, rfl, hK, rfl, ho, hoo, hn, rfl⟩
  refine ⟨fun hi => ⟨by omega, vc_sz _, vc_k0 _ _ (by omega) (by omega), ?_⟩, fun hi => ?_⟩
  · rw [vc_vD _ _ (by omega) (by omega), vc_0 _ _ (by omega) (by omega), Int.toNat_natCast]
    have hm := getD_memV L K (by omega)
    have hT := take_v L K (by omega)
    have k0 := vc_k0 L (K : Int) (by omega) (by omega)
    have k3 := vc_k L (K : Int) (by omega) (by omega)
    rw [Int.toNat_natCast] at k0 k3
    refine ⟨fun h => ?_, fun h => ⟨by omega, vc_sz _, k0, fun h2 => ?_, fun h2 => ?_⟩⟩
    · have : anyB L = true := anyB_yes L K (by omega) h
      unfold catR
      rw [if_pos (show L.any (fun v => v.1 == 3) = true from this)]; rfl
    · rw [bs_size] at h2
      have hr := rawL_sm (hL _ hm)
      unfold Sm at hr
      refine ⟨by omega, vc_sz _, k3, _, c_rbytes _ (hL _ hm).2.1, ?_, L.length - (K + 1), by omega, K + 1, o ++ rawL (L.getD K nul), by rw [i64_in _ (by omega)]; omega, by omega, ?_, ?_, ?_, anyB_take L K (by omega) hn h, rfl⟩
      · simp only [bs_size]; omega
      · rw [bs_append]
      · rw [List.length_append]; omega
      · left
        rcases hoo with rfl | h3
        · rw [hT, catL_snoc]
        · omega
    · refine ⟨L.length - (K + 1), by omega, K + 1, o, by rw [i64_in _ (by omega)]; omega, by omega, rfl, ho, ?_, anyB_take L K (by omega) hn h, rfl⟩
      rw [bs_size] at h2
      by_cases h0 : (L.getD K nul).1 = 0
      · have h5 : rawL (L.getD K nul) = [] := by
          unfold rawL
          rw [if_neg (by omega)]
          exact hz _ hm h0
        rw [hT, catL_snoc, h5, List.append_nil]
        exact hoo
      · right
        have h6 : 4096 < o.length := by
          by_cases h7 : (o.length : Int) ≤ 4096
          · exact absurd ⟨h0, h7⟩ h2
          · omega
        refine ⟨h6, ?_⟩
        rw [hT, catL_snoc, List.length_append]
        rcases hoo with rfl | h3
        · omega
        · omega
  · have e : K = L.length := by omega
    subst e
    rw [List.take_length] at hn hoo
    unfold catR
    rw [if_neg (by rw [show L.any (fun v => v.1 == 3) = false from hn]; simp)]
    have e2 : fitP (txt o) = fitP (txt (catL L)) := by
      rcases hoo with rfl | ⟨h1, h2⟩
      · rfl
      · rw [fit_long h1, fit_long h2]
    show ∃ x3 x4 x5 x6, FnC _ _ _ _ ∧ _ = tupR (fitP (txt (catL L)))
    rw [← e2]
    exact ⟨_, _, _, _, c_rstr _, rfl⟩
end Go.Proofs.YtabakkdlcjpjfaaDoor
namespace Go.Proofs.YtabakkdlcjpjfaaDoor
open Go.RowKit Go.IntWalk
set_option linter.unusedSimpArgs false
set_option linter.unusedVariables false

/-- what is cut out of the first K bytes -/
def subU (s : List UInt8) (f hi : Int) (K : Nat) : List UInt8 := (s.take (min K hi.toNat)).drop (f - 1).toNat
theorem subU_in (s : List UInt8) (f hi : Int) (K : Nat) (hK : K < s.length) (h1 : f ≤ (K : Int) + 1) (h2 : (K : Int) + 1 ≤ hi) : subU s f hi (K + 1) = subU s f hi K ++ [s.getD K 0] := by
  unfold subU
  rw [show min (K + 1) hi.toNat = K + 1 by omega, show min K hi.toNat = K by omega, take_s s K hK, List.drop_append_of_le_length (by rw [List.length_take]; omega)]
theorem subU_out (s : List UInt8) (f hi : Int) (K : Nat) (hK : K < s.length) (h : ¬ (f ≤ (K : Int) + 1 ∧ (K : Int) + 1 ≤ hi)) : subU s f hi (K + 1) = subU s f hi K := by
  unfold subU
  by_cases h2 : (K : Int) + 1 ≤ hi
  · have h1 : ¬ f ≤ (K : Int) + 1 := fun e => h ⟨e, h2⟩
    rw [List.drop_eq_nil_of_le (by rw [List.length_take]; omega), List.drop_eq_nil_of_le (by rw [List.length_take]; omega)]
  · rw [show min (K + 1) hi.toNat = min K hi.toNat by omega]
def frm (s : List UInt8) (n : Int) : Int := if n < 0 then (s.length : Int) + 1 + n else if n = 0 then 1 else n
def upto (s : List UInt8) (f : Int) (many : Option Int) : Int := match many with
  | none => s.length
  | some m => if m < 1 then 0 else f - 1 + m
theorem subU_all (s : List UInt8) (n : Int) (many : Option Int) : subU s (frm s n) (upto s (frm s n) many) s.length = subL s n many := by
  unfold subU subL
  have e : ∀ k : Nat, s.take (min s.length k) = s.take k := fun k => by
    by_cases h : k ≤ s.length
    · rw [Nat.min_eq_right h]
    · rw [Nat.min_eq_left (by omega), List.take_length, List.take_of_length_le (by omega)]
  rw [e]
  rfl
theorem subU_zero (s : List UInt8) (f hi : Int) : subU s f hi 0 = [] := by simp [subU]
theorem subU_le (s : List UInt8) (f hi : Int) (K : Nat) : (subU s f hi K).length ≤ s.length := by
  unfold subU
  rw [List.length_drop, List.length_take]; omega
def manyO (R : List V3) : Option Int := match R with
  | [_, b] => some b.2.1
  | _ => none
theorem one_ext (l : List UInt8) (K : Nat) (h : K < l.length) : (bs l).extract K (K + 1) = bs [l.getD K 0] := by
  rw [bs_extract, take_s l K h, List.drop_append_of_le_length (by rw [List.length_take]; omega), List.drop_of_length_le (by rw [List.length_take]; omega)]; rfl
theorem one_size (c : UInt8) : (bs [c]).size = 1 := rfl
set_option maxHeartbeats 1000000 in
theorem c_rsubstr2 (v a : V3) (hv : Vs v) (ha : Vs a) : FnC Tryd.prog 52 [.c (.vs (vc [v, a]))] (tupR (fitP (substrV v [a]))) := by
  refine w52 (vc [v, a]) ?_
  rw [vc_len]
  have hl : [v, a].length = 2 := rfl
  have hr := rawL_sm hv
  have hn := ha.2.1
  unfold Sm at hr
  unfold I64 at hn
  refine ⟨by omega, vc_sz _, vc_k0 _ _ (by omega) (by omega), fun h => by omega, fun h => by omega, fun h => by omega, ?_⟩
  rw [vc_0 _ (1 : Int) (by omega) (by simp)]
  refine ⟨fun h => ?_, fun h => ?_⟩
  · have h1 : ¬ a.1 = 1 := by
      rcases h with h | h
      · exact h
      · omega
    rw [substrV, if_neg h1]; rfl
  have h1 : a.1 = 1 := Classical.not_not.1 fun e => h (.inl e)
  rw [substrV, if_pos h1, vc_vD _ (0 : Int) (by omega) (by simp), vc_1 _ (1 : Int) (by omega) (by simp), vc_0 _ (0 : Int) (by omega) (by simp)]
  refine ⟨by omega, vc_sz _, vc_k _ _ (by omega) (by simp), _, c_rbytes v hv.2.1, by omega, vc_sz _, vc_k1 _ _ (by omega) (by simp), ?_⟩
  simp only [show ([v, a] : List V3).getD (0 : Int).toNat nul = v from rfl, show ([v, a] : List V3).getD (1 : Int).toNat nul = a from rfl]
  unfold subV
  rw [← subU_all]
  have hz := subU_le (rawL v)
  generalize rawL v = s at *
  generalize hF : frm s a.2.1 = F
  generalize hH : upto s F none = H
  have hH2 : H = s.length := hH.symm
  unfold frm at hF
  generalize a.2.1 = n at *
  refine ⟨fun h0 => ?_, fun h0 => ⟨fun h2 => ?_, fun h2 => ?_⟩⟩
  all_goals
    rw [bs_size]
    refine ⟨fun x i k => ∃ K : Nat, i = K ∧ K ≤ s.length ∧ x = bs (subU s F H K) ∧ k = s.length - K, ⟨_, 0, rfl, by omega, by rw [subU_zero]; rfl, rfl⟩, ?_⟩
    rintro k x i ⟨K, rfl, hK, rfl, rfl⟩
    refine ⟨fun hi => ?_, fun hi => ?_⟩
    · have hw : IntKind.wrap .i64 ((K : Int) + 1) = (K : Int) + 1 := i64_in _ (by omega)
      have hz2 := hz F H K
      simp only [hw, Int.toNat_natCast, show ((K : Int) + 1).toNat = K + 1 by omega, one_ext s K (by omega), bs_size, List.length_cons, List.length_nil]
      refine ⟨fun h => by omega, fun h => by omega, fun h => by omega, fun h => by omega, fun h => by omega, fun h => by omega, fun h => ?_, fun h => ?_⟩
      · refine ⟨by omega, by omega, s.length - (K + 1), by omega, K + 1, rfl, by omega, ?_, rfl⟩
        rw [subU_in s F H K (by omega) (by
          obtain ⟨h, _⟩ := h
          (try rw [i64_in (n + (s.length : Int)) (by omega), i64_in _ (by omega)] at h)
          omega) (by omega), bs_append]
      · refine ⟨s.length - (K + 1), by omega, K + 1, rfl, by omega, ?_, rfl⟩
        rw [subU_out s F H K (by omega) (fun e => h ⟨by
          (try rw [i64_in (n + (s.length : Int)) (by omega), i64_in _ (by omega)])
          omega, .inl (by omega)⟩)]
    · have e : K = s.length := by omega
      subst e
      refine ⟨by omega, vc_sz _, vc_k0 _ _ (by omega) (by simp), fun h3 => ?_, fun h3 => ?_⟩
      · rw [if_pos h3]; exact ⟨_, _, _, _, c_rfit (3, 0, _), rfl⟩
      · rw [if_neg h3]; exact ⟨_, _, _, _, c_rfit (2, 0, _), rfl⟩
set_option maxHeartbeats 1000000 in
theorem c_rsubstr3 (v a b : V3) (hv : Vs v) (ha : Vs a) (hb : Vs b) : FnC Tryd.prog 52 [.c (.vs (vc [v, a, b]))] (tupR (fitP (substrV v [a, b]))) := by
  refine w52 (vc [v, a, b]) ?_
  rw [vc_len]
  have hl : [v, a, b].length = 3 := rfl
  have hr := rawL_sm hv
  have hn := ha.2.1
  unfold Sm at hr
  unfold I64 at hn
  have vz : (∀ el ∈ vc [v, a, b], el.length = 3) := vc_sz _
  have vk : [4] = ((((vc [v, a, b]).getD (2 : Int).toNat []).drop 1).take 1).map kindC := vc_k1 _ _ (by omega) (by simp)
  refine ⟨by omega, vc_sz _, vc_k0 _ _ (by omega) (by omega), fun h => by omega, fun h => vc_sz _, fun h => vc_k0 _ _ (by omega) (by simp), ?_⟩
  rw [vc_0 _ (1 : Int) (by omega) (by simp), vc_0 _ (2 : Int) (by omega) (by simp)]
  refine ⟨fun h => ?_, fun h => ?_⟩
  · have h1 : ¬ (a.1 = 1 ∧ b.1 = 1) := by
      rcases h with h | h
      · exact fun e => h e.1
      · exact fun e => h.2 e.2
    rw [substrV, if_neg h1]; rfl
  have h1 : a.1 = 1 ∧ b.1 = 1 := ⟨Classical.not_not.1 fun e => h (.inl e), Classical.not_not.1 fun e => h (.inr ⟨by omega, e⟩)⟩
  rw [substrV, if_pos h1, vc_vD _ (0 : Int) (by omega) (by simp), vc_1 _ (1 : Int) (by omega) (by simp), vc_1 _ (2 : Int) (by omega) (by simp), vc_0 _ (0 : Int) (by omega) (by simp)]
  refine ⟨by omega, vc_sz _, vc_k _ _ (by omega) (by simp), _, c_rbytes v hv.2.1, by omega, vc_sz _, vc_k1 _ _ (by omega) (by simp), ?_⟩
  simp only [show ([v, a, b] : List V3).getD (0 : Int).toNat nul = v from rfl, show ([v, a, b] : List V3).getD (1 : Int).toNat nul = a from rfl, show ([v, a, b] : List V3).getD (2 : Int).toNat nul = b from rfl]
  unfold subV
  rw [← subU_all]
  have hz := subU_le (rawL v)
  generalize rawL v = s at *
  generalize hF : frm s a.2.1 = F
  generalize hH : upto s F (some b.2.1) = H
  unfold upto at hH
  simp only [] at hH
  have hm := hb.2.1
  unfold I64 at hm
  generalize b.2.1 = m2 at *
  unfold frm at hF
  generalize a.2.1 = n at *
  refine ⟨fun h0 => ?_, fun h0 => ⟨fun h2 => ?_, fun h2 => ?_⟩⟩
  all_goals
    rw [bs_size]
    refine ⟨fun x i k => ∃ K : Nat, i = K ∧ K ≤ s.length ∧ x = bs (subU s F H K) ∧ k = s.length - K, ⟨_, 0, rfl, by omega, by rw [subU_zero]; rfl, rfl⟩, ?_⟩
    rintro k x i ⟨K, rfl, hK, rfl, rfl⟩
    refine ⟨fun hi => ?_, fun hi => ?_⟩
    · have hw : IntKind.wrap .i64 ((K : Int) + 1) = (K : Int) + 1 := i64_in _ (by omega)
      have hz2 := hz F H K
      simp only [hw, Int.toNat_natCast, show ((K : Int) + 1).toNat = K + 1 by omega, one_ext s K (by omega), bs_size, List.length_cons, List.length_nil]
      refine ⟨fun h => by omega, fun h => vz, fun h => vk, fun h => by omega, fun h => vz, fun h => vk, fun h => ?_, fun h => ?_⟩
      · refine ⟨by omega, by omega, s.length - (K + 1), by omega, K + 1, rfl, by omega, ?_, rfl⟩
        obtain ⟨h4, h5⟩ := h
        rcases h5 with h5 | ⟨h5, h6⟩
        · omega
        · (try rw [i64_in (n + (s.length : Int)) (by omega), i64_in (n + (s.length : Int) + 1) (by omega)] at h4 h6)
          rw [i64_in _ (by omega)] at h6
          rw [subU_in s F H K (by omega) (by omega) (by omega), bs_append]
      · refine ⟨s.length - (K + 1), by omega, K + 1, rfl, by omega, ?_, rfl⟩
        rw [subU_out s F H K (by omega) (fun e => h (by
          (try rw [i64_in (n + (s.length : Int)) (by omega), i64_in (n + (s.length : Int) + 1) (by omega)])
          refine ⟨by omega, .inr ⟨by omega, ?_⟩⟩
          rw [i64_in _ (by omega)]
          omega))]
    · have e : K = s.length := by omega
      subst e
      refine ⟨by omega, vc_sz _, vc_k0 _ _ (by omega) (by simp), fun h3 => ?_, fun h3 => ?_⟩
      · rw [if_pos h3]; exact ⟨_, _, _, _, c_rfit (3, 0, _), rfl⟩
      · rw [if_neg h3]; exact ⟨_, _, _, _, c_rfit (2, 0, _), rfl⟩
end Go.Proofs.YtabakkdlcjpjfaaDoor
namespace Go.Proofs.YtabakkdlcjpjfaaDoor
open Go.RowKit Go.IntWalk
set_option linter.unusedSimpArgs false
set_option linter.unusedVariables false

theorem c_rsev_substr (v : V3) (R : List V3) (hv : Vs v) (hR : ∀ a ∈ R, Vs a) (hn : R.length = 1 ∨ R.length = 2) : FnC Tryd.prog 27 [sD wSubstr, .c (.vs (vc (v :: R)))] (tupR (fitP (substrV v R))) := by
  have hc : FnC Tryd.prog 52 [.c (.vs (vc (v :: R)))] (tupR (fitP (substrV v R))) := by
    match R, hn with
    | [a], _ => exact c_rsubstr2 v a hv (hR a (by simp))
    | [a, b], _ => exact c_rsubstr3 v a b hv (hR a (by simp)) (hR b (by simp))
    | [], hn => simp at hn
    | _ :: _ :: _ :: _, hn => simp at hn
  refine w27 (bs wSubstr) (vc (v :: R)) ?_
  simp only [mk_bs, bs_inj]
  exact ⟨fun _ => ⟨_, _, _, _, hc, rfl⟩, fun h => absurd rfl h⟩
theorem fit_like (a b : V3) : fitP (likeV a b) = likeV a b := by
  unfold likeV
  split <;> rfl
theorem c_rsev_like (v a : V3) (hv : Vs v) (ha : Vs a) : FnC Tryd.prog 27 [sD wLike, .c (.vs (vc [v, a]))] (tupR (fitP (likeV v a))) := by
  rw [fit_like]
  have hc := c_rLike v.2.2 a.2.2 hv.2.2 ha.2.2
  refine w27 (bs wLike) (vc [v, a]) ?_
  simp only [mk_bs, bs_inj]
  rw [vc_0 _ (0 : Int) (by omega) (by simp), vc_0 _ (1 : Int) (by omega) (by simp), vc_2 _ (0 : Int) (by omega) (by simp), vc_2 _ (1 : Int) (by omega) (by simp)]
  refine ⟨fun h => absurd h (by decide), fun _ => ⟨fun _ => ?_, fun h => absurd rfl h⟩⟩
  refine ⟨by simp [vc_len], vc_sz _, vc_k0 _ _ (by omega) (by simp), fun _ => by simp [vc_len], fun _ => vc_sz _, fun _ => vc_k0 _ _ (by omega) (by simp), fun h => ?_, fun h => ?_⟩
  · rw [likeV, if_neg (fun e => h.elim (fun h => h e.1) (fun h => h e.2))]; rfl
  · rw [likeV, if_pos ⟨Classical.not_not.1 fun e => h (.inl e), Classical.not_not.1 fun e => h (.inr e)⟩]
    refine ⟨by simp [vc_len], vc_sz _, vc_k2 _ _ (by omega) (by simp), by simp [vc_len], vc_sz _, vc_k2 _ _ (by omega) (by simp), _, hc, fun h => ?_, fun h => ?_⟩
    · rw [h]; exact ⟨_, _, _, _, c_rnum 1, rfl⟩
    · rw [Bool.eq_false_iff.2 h]; exact ⟨_, _, _, _, c_rnum 0, rfl⟩
theorem fit_instr (a b : V3) : fitP (instrV a b) = instrV a b := by
  unfold instrV
  split <;> rfl
theorem c_rsev_instr (v a : V3) (hv : Vs v) (ha : Vs a) : FnC Tryd.prog 27 [sD wInstr, .c (.vs (vc [v, a]))] (tupR (fitP (instrV v a))) := by
  rw [fit_instr]
  have s0 := rawL_sm hv
  have s1 := rawL_sm ha
  refine w27 (bs wInstr) (vc [v, a]) ?_
  simp only [mk_bs, bs_inj]
  rw [vc_vD _ (0 : Int) (by omega) (by simp), vc_vD _ (1 : Int) (by omega) (by simp), vc_0 _ (0 : Int) (by omega) (by simp), vc_0 _ (1 : Int) (by omega) (by simp)]
  refine ⟨fun h => absurd h (by decide), fun _ => ⟨fun h => absurd h (by decide), fun _ => ⟨fun _ => ?_, fun h => absurd rfl h⟩⟩⟩
  have e : (v.1 == 3) = (a.1 == 3) ↔ ((v.1 = 3) ↔ (a.1 = 3)) := by
    by_cases h1 : v.1 = 3 <;> by_cases h2 : a.1 = 3 <;> simp [h1, h2]
    rw [beq_eq_false_iff_ne.2 h1, beq_eq_false_iff_ne.2 h2]
  refine ⟨by simp [vc_len], vc_sz _, vc_k0 _ _ (by omega) (by simp), by simp [vc_len], vc_sz _, vc_k0 _ _ (by omega) (by simp), fun h => ?_, fun h => ?_⟩
  · rw [instrV, if_neg (fun x => h (e.2 x))]; rfl
  · rw [instrV, if_pos (e.1 (Classical.not_not.1 h))]
    refine ⟨by simp [vc_len], vc_sz _, vc_k _ _ (by omega) (by simp), _, c_rbytes v hv.2.1, by simp [vc_len], vc_sz _, vc_k _ _ (by omega) (by simp), _, c_rbytes a ha.2.1, _, c_rat _ _ 0 s0 s1 (by omega), ?_⟩
    have := findL_rng (rawL v) (rawL a) 0
    unfold Sm at s0
    rw [i64_in _ (by omega)]
    exact ⟨_, _, _, _, c_rnum _, rfl⟩
set_option maxHeartbeats 1000000 in
theorem c_rsev_replace (v a b : V3) (hv : Vs v) (ha : Vs a) (hb : Vs b) : FnC Tryd.prog 27 [sD wReplace, .c (.vs (vc [v, a, b]))] (tupR (fitP (blobR [v, a, b] (replR (rawL v) (rawL a) (rawL b))))) := by
  have s0 := rawL_sm hv
  have s1 := rawL_sm ha
  have s2 := rawL_sm hb
  refine w27 (bs wReplace) (vc [v, a, b]) ?_
  simp only [mk_bs, bs_inj]
  rw [vc_vD _ (0 : Int) (by omega) (by simp), vc_vD _ (1 : Int) (by omega) (by simp), vc_vD _ (2 : Int) (by omega) (by simp), vc_0 _ (0 : Int) (by omega) (by simp), vc_0 _ (1 : Int) (by omega) (by simp), vc_0 _ (2 : Int) (by omega) (by simp)]
  have hl : (vc [v, a, b]).length = 3 := rfl
  iterate 3 refine ⟨fun h => absurd h (by decide), fun _ => ?_⟩
  refine ⟨by omega, vc_sz _, vc_k0 _ _ (by omega) (by simp), fun _ => by omega, fun _ => vc_sz _, fun _ => vc_k0 _ _ (by omega) (by simp), fun _ => by omega, fun _ => vc_sz _, fun _ => vc_k0 _ _ (by omega) (by simp), fun h => ?_, fun h => ?_⟩
  · have : anyB [v, a, b] = true := by
      unfold anyB
      rcases h with (h | h) | h
      · simp [show v.1 = 3 from h]
      · simp [show a.1 = 3 from h]
      · simp [show b.1 = 3 from h]
    rw [blobR, if_pos this]; rfl
  have : ¬ anyB [v, a, b] = true := by
    unfold anyB
    have h1 : ¬ v.1 = 3 := fun e => h (.inl (.inl e))
    have h2 : ¬ a.1 = 3 := fun e => h (.inl (.inr e))
    have h3 : ¬ b.1 = 3 := fun e => h (.inr e)
    simp [h1, h2, h3]
  rw [blobR, if_neg this]
  refine ⟨by omega, vc_sz _, vc_k _ _ (by omega) (by simp), _, c_rbytes v hv.2.1, by omega, vc_sz _, vc_k _ _ (by omega) (by simp), _, c_rbytes a ha.2.1, by omega, vc_sz _, vc_k _ _ (by omega) (by simp), _, c_rbytes b hb.2.1, ?_⟩
  clear this h
  generalize rawL v = s at *
  generalize rawL a = t at *
  generalize rawL b = u at *
  have hc := fun i hi => c_rat s t i s0 s1 hi
  unfold Sm at s0 s1 s2
  unfold replR
  rw [bs_inj]
  refine ⟨fun h => ?_, fun h => ?_⟩
  · rw [if_pos h]
    exact ⟨_, _, _, _, c_rstr _, rfl⟩
  rw [if_neg h]
  have ht : 0 < t.length := List.length_pos_iff.2 h
  refine ⟨_, hc 0 (by omega), ?_⟩
  refine ⟨fun o i x k => ∃ (q : List UInt8) (I : Nat), o = bs q ∧ i = I ∧ I ≤ s.length ∧ q.length ≤ 4096 ∧ x = findL s t I ∧ replL s t u 0 = q ++ replL s t u I ∧ k = s.length - I, ⟨_, [], 0, rfl, rfl, by omega, by simp, rfl, rfl, rfl⟩, ?_⟩
  rintro k o i x ⟨q, I, rfl, rfl, hI, hq, rfl, hr, rfl⟩
  have hf := findL_at s t I
  have he : ∀ n, ((bs s).extract (I : Int).toNat n) = bs ((s.take n).drop I) := fun n => by rw [bs_extract, Int.toNat_natCast]
  have hlen : ∀ n, ((s.take n).drop I).length ≤ s.length := fun n => by rw [List.length_drop, List.length_take]; omega
  generalize replL s t u 0 = G at *
  rw [replL] at hr
  refine ⟨fun h1 => ?_, fun h1 => ?_⟩
  · rw [dif_pos ⟨h1, ht⟩] at hr
    have hL := hlen (findL s t I).toNat
    simp only [he, bs_append, bs_size, List.length_append]
    refine ⟨by omega, by omega, by omega, fun h2 => ?_, fun h2 => ?_⟩
    · rw [hr, fit_long (by simp only [List.length_append]; omega)]; rfl
    · have h3 := hc ((findL s t I).toNat + t.length) (by omega)
      rw [i64_in _ (by omega), show findL s t I + (t.length : Int) = (((findL s t I).toNat + t.length : Nat) : Int) by omega]
      refine ⟨_, h3, s.length - ((findL s t I).toNat + t.length), by omega, q ++ (s.take (findL s t I).toNat).drop I ++ u, (findL s t I).toNat + t.length, rfl, rfl, by omega, by simp only [List.length_append]; omega, rfl, ?_, rfl⟩
      rw [hr]; simp only [List.append_assoc]
  · rw [dif_neg (fun e => h1 e.1)] at hr
    have hL := hlen s.length
    rw [bs_size, he, Int.toNat_natCast, bs_append, bs_size, bs_size, List.take_length]
    rw [List.take_length] at hL
    rw [hr]
    exact ⟨by omega, by omega, _, _, _, _, c_rstr _, rfl⟩
end Go.Proofs.YtabakkdlcjpjfaaDoor
namespace Go.Proofs.YtabakkdlcjpjfaaDoor
open Go.RowKit Go.IntWalk
set_option linter.unusedSimpArgs false
set_option linter.unusedVariables false

noncomputable def sevV (f : List UInt8) (L : List V3) : V3 × Int :=
  if f = wInstr then instrV (L.getD 0 nul) (L.getD 1 nul)
  else if f = wReplace then blobR L (replR (rawL (L.getD 0 nul)) (rawL (L.getD 1 nul)) (rawL (L.getD 2 nul)))
  else if f = wSubstr then substrV (L.getD 0 nul) L.tail
  else if f = wLike then likeV (L.getD 0 nul) (L.getD 1 nul)
  else singleV f (L.getD 0 nul)
noncomputable def bodyV (f : List UInt8) (L : List V3) : V3 × Int :=
  if f = wTypeof then txt (kindL (L.getD 0 nul).1)
  else if f = wQuote then txt (quoteL (L.getD 0 nul))
  else if f = wConcat then catR L
  else if f = wCoalesce ∨ f = wIfnull then (firstV L, 0)
  else if f = wNullif then (if cmpV (L.getD 0 nul) (L.getD 1 nul) 0 = 0 then nul else L.getD 0 nul, 0)
  else if L.any (fun v => v.1 == 0) = true then (nul, 0)
  else sevV f L
noncomputable def resV (op : List UInt8) (L : List V3) : V3 × Int :=
  if knownB (foldL op) L.length = true then (if badV L = 0 then fitP (bodyV (foldL op) L) else (nul, badV L)) else (nul, 25)

theorem known_cases (f : List UInt8) (n : Int) (h : knownB f n = true) : (f ∈ ones ∧ n = 1) ∨ ((f = wInstr ∨ f = wIfnull ∨ f = wNullif ∨ f = wLike) ∧ n = 2) ∨ (f = wReplace ∧ n = 3) ∨ (f = wSubstr ∧ (n = 2 ∨ n = 3)) ∨ ((f = wCoalesce ∨ f = wConcat) ∧ 1 ≤ n) := by
  unfold knownB at h
  have e : f ∈ ones ↔ (f = wAbs ∨ f = wSign ∨ f = wLength ∨ f = wUpper ∨ f = wLower ∨ f = wTrim ∨ f = wLtrim ∨ f = wRtrim ∨ f = wHex ∨ f = wQuote ∨ f = wTypeof) := by simp [ones]
  rw [e]
  split at h
  · rename_i h0; exact .inl ⟨h0, by simpa using h⟩
  · split at h
    · rename_i h0; exact .inr (.inl ⟨h0, by simpa using h⟩)
    · split at h
      · rename_i h0; exact .inr (.inr (.inl ⟨h0, by simpa using h⟩))
      · split at h
        · rename_i h0; exact .inr (.inr (.inr (.inl ⟨h0, by simpa using h⟩)))
        · split at h
          · rename_i h0; exact .inr (.inr (.inr (.inr ⟨h0, by simpa using h⟩)))
          · cases h
theorem known_one (f : List UInt8) (n : Int) (h : knownB f n = true) (hf : f ∈ ones) : n = 1 := by
  rcases known_cases f n h with ⟨_, h⟩ | ⟨h1, _⟩ | ⟨h1, _⟩ | ⟨h1, _⟩ | ⟨h1, _⟩
  · exact h
  · rcases h1 with rfl | rfl | rfl | rfl <;> exact absurd hf (by decide)
  · subst h1; exact absurd hf (by decide)
  · subst h1; exact absurd hf (by decide)
  · rcases h1 with rfl | rfl <;> exact absurd hf (by decide)
theorem known_two (f : List UInt8) (n : Int) (h : knownB f n = true) (hf : f = wInstr ∨ f = wIfnull ∨ f = wNullif ∨ f = wLike) : n = 2 := by
  rcases known_cases f n h with ⟨h1, _⟩ | ⟨_, h⟩ | ⟨h1, _⟩ | ⟨h1, _⟩ | ⟨h1, _⟩
  · rcases hf with rfl | rfl | rfl | rfl <;> exact absurd h1 (by decide)
  · exact h
  · subst h1; exact absurd hf (by decide)
  · subst h1; exact absurd hf (by decide)
  · rcases h1 with rfl | rfl <;> exact absurd hf (by decide)
theorem known_three (n : Int) (h : knownB wReplace n = true) : n = 3 := by
  rcases known_cases _ n h with ⟨h1, _⟩ | ⟨h1, _⟩ | ⟨_, h⟩ | ⟨h1, _⟩ | ⟨h1, _⟩
  · exact absurd h1 (by decide)
  · exact absurd h1 (by decide)
  · exact h
  · exact absurd h1 (by decide)
  · exact absurd h1 (by decide)
theorem known_sub (n : Int) (h : knownB wSubstr n = true) : n = 2 ∨ n = 3 := by
  rcases known_cases _ n h with ⟨h1, _⟩ | ⟨h1, _⟩ | ⟨h1, _⟩ | ⟨_, h⟩ | ⟨h1, _⟩
  · exact absurd h1 (by decide)
  · exact absurd h1 (by decide)
  · exact absurd h1 (by decide)
  · exact h
  · exact absurd h1 (by decide)
theorem known_all (f : List UInt8) (n : Int) (h : knownB f n = true) : f ∈ ones ∨ f = wInstr ∨ f = wIfnull ∨ f = wNullif ∨ f = wLike ∨ f = wReplace ∨ f = wSubstr ∨ f = wCoalesce ∨ f = wConcat := by
  rcases known_cases f n h with ⟨h1, _⟩ | ⟨h1, _⟩ | ⟨h1, _⟩ | ⟨h1, _⟩ | ⟨h1, _⟩
  · exact .inl h1
  · rcases h1 with h1 | h1 | h1 | h1 <;> simp [h1]
  · simp [h1]
  · simp [h1]
  · rcases h1 with h1 | h1 <;> simp [h1]
theorem known_pos (f : List UInt8) (n : Int) (h : knownB f n = true) : 1 ≤ n := by
  rcases known_cases f n h with ⟨_, h⟩ | ⟨_, h⟩ | ⟨_, h⟩ | ⟨_, h⟩ | ⟨_, h⟩ <;> omega
theorem list1 {L : List V3} (h : (L.length : Int) = 1) : ∃ v, L = [v] := by
  match L, h with
  | [v], _ => exact ⟨v, rfl⟩
  | [], h => simp at h
  | _ :: _ :: _, h => simp at h; omega
theorem list2 {L : List V3} (h : (L.length : Int) = 2) : ∃ v a, L = [v, a] := by
  match L, h with
  | [v, a], _ => exact ⟨v, a, rfl⟩
  | [], h => simp at h
  | [_], h => simp at h
  | _ :: _ :: _ :: _, h => simp at h; omega
theorem list3 {L : List V3} (h : (L.length : Int) = 3) : ∃ v a b, L = [v, a, b] := by
  match L, h with
  | [v, a, b], _ => exact ⟨v, a, b, rfl⟩
  | [], h => simp at h
  | [_], h => simp at h
  | [_, _], h => simp at h
  | _ :: _ :: _ :: _ :: _, h => simp at h; omega
theorem bad_all : ∀ {L : List V3}, badV L = 0 → ∀ v ∈ L, checkV v = 0
  | [], _, v, hv => by cases hv
  | u :: L, h, v, hv => by
    rw [badV] at h
    by_cases h0 : checkV u = 0
    · rw [if_pos h0] at h
      rcases List.mem_cons.1 hv with rfl | hv
      · exact h0
      · exact bad_all h v hv
    · rw [if_neg h0] at h; exact absurd h h0
/-- a value that may be -/
def Can (v : V3) : Prop := ¬ (v.1 < 0 ∨ 3 < v.1 ∨ (v.1 ≠ 1 ∧ v.2.1 ≠ 0) ∨ (v.1 < 2 ∧ v.2.2 ≠ []))
theorem check_can {v : V3} (h : checkV v = 0) : Can v ∧ (v.2.2.length : Int) ≤ 4096 := by
  unfold checkV at h
  split at h
  · cases h
  · rename_i h0
    split at h
    · cases h
    · exact ⟨h0, by omega⟩
theorem can_null {v : V3} (h : Can v) (h0 : v.1 = 0) : v.2.2 = [] := by
  unfold Can at h
  by_cases e : v.2.2 = []
  · exact e
  · exact absurd (.inr (.inr (.inr ⟨by omega, e⟩))) h
theorem can_nul : Can nul := by simp [Can, nul]
theorem fit_can {r : V3 × Int} (h : Can r.1) : checkV (fitP r).1 = 0 := by
  unfold fitP
  have hn : checkV nul = 0 := by decide
  split
  · exact hn
  · split
    · rename_i h1 h2
      show checkV r.1 = 0
      unfold checkV
      rw [if_neg h, if_neg (fun e => h1 ⟨h2, e⟩)]
    · exact hn
theorem can_txt (s : List UInt8) : Can (txt s).1 := by simp [Can, txt]
theorem can_first : ∀ {L : List V3}, (∀ v ∈ L, Can v) → Can (firstV L)
  | [], _ => can_nul
  | v :: L, h => by
    rw [firstV]
    split
    · exact can_first fun u hu => h u (by simp [hu])
    · exact h v (by simp)
theorem getD_ok (L : List V3) (h : ∀ v ∈ L, Can v) (i : Nat) : Can (L.getD i nul) := by
  by_cases hi : i < L.length
  · exact h _ (getD_memV L i hi)
  · rw [List.getD_eq_getElem?_getD, List.getElem?_eq_none (by omega)]
    exact can_nul
theorem can_num (n : Int) : Can ((1, n, []) : V3) := by simp [Can]
theorem can_single (f : List UInt8) (v : V3) : Can (singleV f v).1 := by
  unfold singleV sizeV letV
  repeat' split
  all_goals first
    | exact can_num _
    | exact can_txt _
    | exact can_nul
    | (simp [Can]; done)
theorem can_sub (v : V3) (n : Int) (m : Option Int) : Can (subV v n m) := by
  unfold subV Can
  split <;> simp
theorem can_substr (v : V3) (R : List V3) : Can (substrV v R).1 := by
  unfold substrV
  split
  · split
    · exact can_sub _ _ _
    · exact can_nul
  · split
    · exact can_sub _ _ _
    · exact can_nul
  · exact can_nul
theorem can_body (f : List UInt8) (L : List V3) (h : ∀ v ∈ L, Can v) : Can (bodyV f L).1 := by
  unfold bodyV
  split
  · exact can_txt _
  split
  · exact can_txt _
  split
  · unfold catR
    split
    · exact can_nul
    · exact can_txt _
  split
  · exact can_first h
  split
  · show Can (if _ then _ else _)
    split
    · exact can_nul
    · exact getD_ok L h 0
  split
  · exact can_nul
  unfold sevV
  split
  · unfold instrV
    split
    · exact can_num _
    · exact can_nul
  split
  · unfold blobR
    split
    · exact can_nul
    · exact can_txt _
  split
  · exact can_substr _ _
  split
  · unfold likeV
    split
    · exact can_num _
    · exact can_nul
  · exact can_single _ _
theorem res_ok (op : List UInt8) (L : List V3) : checkV (resV op L).1 = 0 := by
  have hn : checkV nul = 0 := by decide
  unfold resV
  split
  · split
    · rename_i h
      exact fit_can (can_body _ _ fun v hv => (check_can (bad_all h v hv)).1)
    · exact hn
  · exact hn
end Go.Proofs.YtabakkdlcjpjfaaDoor
namespace Go.Proofs.YtabakkdlcjpjfaaDoor
open Go.RowKit Go.IntWalk
set_option linter.unusedSimpArgs false
set_option linter.unusedVariables false

def anyN (L : List V3) : Bool := L.any (fun v => v.1 == 0)
section
variable {op : List UInt8} (hop : Sm op) {L : List V3} (hl : L.length ≤ 1000000) (hk : knownB (foldL op) L.length = true) (hb : badV L = 0)
include hop hl hk hb
theorem call_open (r : V3 × Int) (h : FnC Tryd.prog 20 [sD (foldL op), .c (.vs (vc L))] (.tup [vD r.1, iD r.2, bD true])) (e : bodyV (foldL op) L = r) : FnC Tryd.prog 9 [sD op, .c (.vs (vc L))] (tupR (resV op L)) := by
  have := c_Call op hop L hl r.1 r.2 true nul 0 (fun _ _ => h) (fun _ _ h => by cases h)
  rw [callR, if_pos hk, if_pos hb, if_pos rfl, fitR_P] at this
  rw [resV, if_pos hk, if_pos hb, e]
  exact this
theorem call_call (r s : V3 × Int) (hf : foldL op ≠ wTypeof ∧ foldL op ≠ wQuote ∧ foldL op ≠ wCoalesce ∧ foldL op ≠ wIfnull ∧ foldL op ≠ wNullif ∧ foldL op ≠ wConcat)
    (h : anyN L = false → FnC Tryd.prog 21 [sD (foldL op), .c (.vs (vc L))] (tupR r)) (hs : fitP r = fitP s) (e : sevV (foldL op) L = s) : FnC Tryd.prog 9 [sD op, .c (.vs (vc L))] (tupR (resV op L)) := by
  have := c_Call op hop L hl nul 0 false r.1 r.2 (fun _ _ => c_open_not (foldL op) L hf) (fun _ _ _ hn => h hn)
  rw [callR, if_pos hk, if_pos hb, if_neg (by simp), fitR_P] at this
  obtain ⟨h1, h2, h3, h4, h5, h6⟩ := hf
  rw [resV, if_pos hk, if_pos hb, bodyV, if_neg h1, if_neg h2, if_neg h6, if_neg (fun x => x.elim h3 h4), if_neg h5]
  by_cases hn : L.any (fun v => v.1 == 0) = true
  · rw [if_pos hn] at this ⊢
    exact this
  · rw [if_neg hn] at this ⊢
    rw [e, ← hs]
    exact this
end
theorem c_CallV (op : List UInt8) (hop : Sm op) (L : List V3) (hl : L.length ≤ 1000000) (hV : ∀ v ∈ L, Vs v) : FnC Tryd.prog 9 [sD op, .c (.vs (vc L))] (tupR (resV op L)) := by
  by_cases hk : knownB (foldL op) L.length = true
  case neg =>
    have := c_Call op hop L hl nul 0 true nul 0 (fun h => absurd h hk) (fun h => absurd h hk)
    rw [callR, if_neg hk] at this
    rw [resV, if_neg hk]
    exact this
  by_cases hb : badV L = 0
  case neg =>
    have := c_Call op hop L hl nul 0 true nul 0 (fun _ h => absurd h hb) (fun _ h => absurd h hb)
    rw [callR, if_pos hk, if_neg hb] at this
    rw [resV, if_pos hk, if_neg hb]
    exact this
  have CO := fun r => call_open hop hl hk hb r
  have CC := fun r s => call_call hop hl hk hb r s
  generalize foldL op = f at *
  rcases known_all f _ hk with h | h | h | h | h | h | h | h | h
  · obtain ⟨v, rfl⟩ := list1 (known_one f _ hk h)
    have hv := hV v (by simp)
    simp only [ones, List.mem_cons, List.not_mem_nil, or_false] at h
    rcases h with rfl | rfl | rfl | rfl | rfl | rfl | rfl | rfl | rfl | rfl | rfl
    · exact CC _ _ (by decide) (fun _ => c_call_size v [] hv wAbs (.inl rfl)) rfl rfl
    · exact CC _ _ (by decide) (fun _ => c_call_size v [] hv wSign (.inr rfl)) rfl rfl
    · exact CC _ _ (by decide) (fun _ => c_call_length v [] hv) rfl rfl
    · exact CC _ _ (by decide) (fun _ => c_call_upper v [] hv) rfl rfl
    · exact CC _ _ (by decide) (fun _ => c_call_lower v [] hv) rfl rfl
    · exact CC _ _ (by decide) (fun _ => c_call_trim v [] hv) rfl rfl
    · exact CC _ _ (by decide) (fun _ => c_call_ltrim v [] hv) rfl rfl
    · exact CC _ _ (by decide) (fun _ => c_call_rtrim v [] hv) rfl rfl
    · exact CC _ _ (by decide) (fun _ => c_call_hex v [] hv) rfl rfl
    · exact CO (txt (quoteL v)) (c_open_quote v [] hv) rfl
    · exact CO (txt (kindL v.1)) (c_open_typeof v []) rfl
  · subst h
    obtain ⟨v, a, rfl⟩ := list2 (known_two _ _ hk (by simp))
    exact CC _ _ (by decide) (fun _ => c_call_instr' v a (hV v (by simp)) (hV a (by simp))) rfl rfl
  · subst h
    exact CO (firstV L, 0) (c_open_first wIfnull L hl (.inr rfl)) rfl
  · subst h
    obtain ⟨v, a, rfl⟩ := list2 (known_two _ _ hk (by simp))
    exact CO (if cmpV v a 0 = 0 then nul else v, 0) (c_open_nullif v a (hV v (by simp)) (hV a (by simp))) rfl
  · subst h
    obtain ⟨v, a, rfl⟩ := list2 (known_two _ _ hk (by simp))
    exact CC _ _ (by decide) (fun _ => c_call_like v a (hV v (by simp)) (hV a (by simp))) rfl rfl
  · subst h
    obtain ⟨v, a, b, rfl⟩ := list3 (known_three _ hk)
    exact CC _ _ (by decide) (fun _ => c_call_replace v a b (hV v (by simp)) (hV a (by simp)) (hV b (by simp))) (fit_blob _ _ _ (fit_repl _ _ _)) rfl
  · subst h
    match L, known_sub _ hk with
    | [], h => simp at h
    | v :: R, h =>
      exact CC _ _ (by decide) (fun _ => c_call_substr v R (hV v (by simp)) (fun a ha => hV a (by simp [ha])) (by simp only [List.length_cons] at h; omega)) rfl rfl
  · subst h
    exact CO (firstV L, 0) (c_open_first wCoalesce L hl (.inl rfl)) rfl
  · subst h
    exact CO (catR L) (c_open_cat L hV hl) rfl

theorem kind_at (v : V3) (h : Can v) : (cellAt (scs [[110, 117, 108, 108], [105, 110, 116], [116, 101, 120, 116], [98, 108, 111, 98]]) v.1 0).str = bs (kindL v.1) ∧ 0 ≤ v.1 ∧ v.1 < 4 := by
  unfold Can at h
  have h0 : 0 ≤ v.1 ∧ v.1 < 4 := by
    refine ⟨?_, ?_⟩
    · by_cases e : v.1 < 0
      · exact absurd (.inl e) h
      · omega
    · by_cases e : 3 < v.1
      · exact absurd (.inr (.inl e)) h
      · omega
  refine ⟨?_, h0⟩
  rw [scs_0 _ _ h0.1 (by simp; omega)]
  rcases (show v.1 = 0 ∨ v.1 = 1 ∨ v.1 = 2 ∨ v.1 = 3 by omega) with h | h | h | h <;> rw [h] <;> rfl
theorem c_rsev (f : List UInt8) (L : List V3) (hV : ∀ v ∈ L, Vs v) (hk : knownB f L.length = true) (hf : ((f = wInstr ∨ f = wReplace) ∨ f = wSubstr) ∨ f = wLike) : FnC Tryd.prog 27 [sD f, .c (.vs (vc L))] (tupR (fitP (sevV f L))) := by
  rcases hf with ((rfl | rfl) | rfl) | rfl
  · obtain ⟨v, a, rfl⟩ := list2 (known_two _ _ hk (by simp))
    exact c_rsev_instr v a (hV v (by simp)) (hV a (by simp))
  · obtain ⟨v, a, b, rfl⟩ := list3 (known_three _ hk)
    exact c_rsev_replace v a b (hV v (by simp)) (hV a (by simp)) (hV b (by simp))
  · match L, known_sub _ hk with
    | [], h => simp at h
    | v :: R, h => exact c_rsev_substr v R (hV v (by simp)) (fun a ha => hV a (by simp [ha])) (by simp only [List.length_cons] at h; omega)
  · obtain ⟨v, a, rfl⟩ := list2 (known_two _ _ hk (by simp))
    exact c_rsev_like v a (hV v (by simp)) (hV a (by simp))
theorem c_rCallV (op : List UInt8) (hop : Sm op) (L : List V3) (hl : L.length ≤ 1000000) (hV : ∀ v ∈ L, Vs v) : FnC Tryd.prog 10 [sD op, .c (.vs (vc L))] (tupR (resV op L)) := by
  refine w10 (bs op) (vc L) ?_
  rw [vc_len]
  refine ⟨_, c_rKnown op L.length hop (by omega), ?_⟩
  unfold resV
  refine ⟨fun hk => by rw [if_neg hk]; rfl, fun hk => ?_⟩
  have hk := Classical.not_not.1 hk
  rw [if_pos hk]
  refine ⟨fun i m => ∃ K : Nat, i = K ∧ K ≤ L.length ∧ badV L = badV (L.drop K) ∧ m = L.length - K, ⟨_, 0, rfl, by omega, rfl, rfl⟩, ?_⟩
  rintro m i ⟨K, rfl, hK, hb, rfl⟩
  refine ⟨fun hi => ⟨by omega, vc_sz _, vc_k _ _ (by omega) (by omega), ?_⟩, fun hi => ?_⟩
  · rw [vc_vD _ _ (by omega) (by omega), Int.toNat_natCast]
    have hd := drop_v L K (by omega)
    refine ⟨_, c_r4Check _, fun h => ?_, fun h => ?_⟩
    · have e : badV L = checkV (L.getD K nul) := by rw [hb, hd, badV, if_neg h]
      rw [e, if_neg h]; rfl
    · refine ⟨_, ?_, K + 1, by rw [i64_in _ (by omega)]; omega, by omega, ?_, rfl⟩
      · omega
      · rw [hb, hd, badV, if_pos (Classical.not_not.1 h)]
  have e : K = L.length := by omega
  subst e
  rw [List.drop_length] at hb
  have hb : badV L = 0 := hb
  rw [if_pos hb]
  have hC : ∀ v ∈ L, Can v := fun v hv => (check_can (bad_all hb v hv)).1
  have hpos := known_pos _ _ hk
  have g0 := getD_memV L 0 (by omega)
  refine ⟨_, c_r3Fold op hop, ?_⟩
  generalize foldL op = f at *
  simp only [mk_bs, bs_inj]
  unfold bodyV
  refine ⟨fun h => ?_, fun h1 => ?_⟩
  · rw [if_pos (show f = wTypeof from h)]
    intro x5 hx
    obtain rfl : x5 = scs [[110, 117, 108, 108], [105, 110, 116], [116, 101, 120, 116], [98, 108, 111, 98]] := hx
    rw [vc_0 _ (0 : Int) (by omega) (by omega)]
    obtain ⟨e1, e2, e3⟩ := kind_at _ (hC _ g0)
    have e1 : (cellAt (scs [[110, 117, 108, 108], [105, 110, 116], [116, 101, 120, 116], [98, 108, 111, 98]]) (L.getD (Int.toNat 0) nul).1 0).str = bs (kindL (L.getD 0 nul).1) := e1
    rw [e1, scs_len]
    refine ⟨by omega, vc_sz _, vc_k0 _ _ (by omega) (by omega), ⟨e2, e3⟩, scs_k _ _ e2 e3, _, _, _, _, c_rstr _, rfl⟩
  rw [if_neg (show ¬ f = wTypeof from h1)]
  refine ⟨fun h => ?_, fun h2 => ?_⟩
  · rw [if_pos (show f = wQuote from h), vc_vD _ (0 : Int) (by omega) (by omega)]
    exact ⟨by omega, vc_sz _, vc_k _ _ (by omega) (by omega), _, c_r3Quote _ (hV _ g0).2.1 (hV _ g0).2.2, _, _, _, _, c_rstr _, rfl⟩
  rw [if_neg (show ¬ f = wQuote from h2)]
  refine ⟨fun h => ?_, fun h3 => ?_⟩
  · rw [if_pos (show f = wConcat from h)]
    exact ⟨_, _, _, _, c_rconcat L hV (fun v hv h0 => can_null (hC v hv) h0) hl, rfl⟩
  rw [if_neg (show ¬ f = wConcat from h3)]
  have fz : ∀ v : V3, (v.2.2.length : Int) ≤ 4096 → fitP (v, 0) = (v, 0) := fun v h => by
    unfold fitP
    rw [if_neg (fun e => by have := e.2; simp only [] at this; omega), if_pos rfl]
  have fv : ∀ v ∈ L, fitP (v, 0) = (v, 0) := fun v hv => fz v (check_can (bad_all hb v hv)).2
  refine ⟨fun h => ?_, fun h4 => ?_⟩
  · rw [if_pos (show f = wCoalesce ∨ f = wIfnull from h)]
    refine ⟨fun i m => ∃ K : Nat, i = K ∧ K ≤ L.length ∧ firstV L = firstV (L.drop K) ∧ m = L.length - K, ⟨_, 0, rfl, by omega, rfl, rfl⟩, ?_⟩
    rintro m i ⟨K, rfl, hK, hfi, rfl⟩
    refine ⟨fun hi => ⟨by omega, vc_sz _, vc_k0 _ _ (by omega) (by omega), ?_⟩, fun hi => ?_⟩
    · have k3 := vc_k L (K : Int) (by omega) (by omega)
      rw [Int.toNat_natCast] at k3
      rw [vc_vD _ _ (by omega) (by omega), vc_0 _ _ (by omega) (by omega), Int.toNat_natCast]
      have hd := drop_v L K (by omega)
      refine ⟨fun h => ⟨by omega, vc_sz _, k3, ?_⟩, fun h => ?_⟩
      · rw [hfi, hd, firstV, if_neg h, fv _ (getD_memV L K (by omega))]; rfl
      · refine ⟨L.length - (K + 1), by omega, K + 1, by rw [i64_in _ (by omega)]; omega, by omega, ?_, rfl⟩
        rw [hfi, hd, firstV, if_pos (Classical.not_not.1 h)]
    · have e : K = L.length := by omega
      subst e
      rw [hfi, List.drop_length]; rfl
  rw [if_neg (show ¬ (f = wCoalesce ∨ f = wIfnull) from h4)]
  refine ⟨fun h => ?_, fun h5 => ?_⟩
  · have hl2 := known_two f _ hk (.inr (.inr (.inl h)))
    have g1 := getD_memV L 1 (by omega)
    rw [if_pos (show f = wNullif from h), vc_vD _ (0 : Int) (by omega) (by omega), vc_vD _ (1 : Int) (by omega) (by omega)]
    refine ⟨by omega, vc_sz _, vc_k _ _ (by omega) (by omega), by omega, vc_sz _, vc_k _ _ (by omega) (by omega), _, c_r4Compare _ _ 0 (hV _ g0).2.2.sz (hV _ g1).2.2.sz, fun hc => ?_, fun hc => ⟨by omega, vc_sz _, vc_k _ _ (by omega) (by omega), ?_⟩⟩
    · rw [if_pos (show cmpV (L.getD 0 nul) (L.getD 1 nul) 0 = 0 from hc)]; rfl
    · rw [if_neg (show ¬ cmpV (L.getD 0 nul) (L.getD 1 nul) 0 = 0 from hc), fv _ g0]; rfl
  rw [if_neg (show ¬ f = wNullif from h5)]
  refine ⟨fun i m => ∃ K : Nat, i = K ∧ K ≤ L.length ∧ (L.take K).any (fun v => v.1 == 0) = false ∧ m = L.length - K, ⟨_, 0, rfl, by omega, rfl, rfl⟩, ?_⟩
  rintro m i ⟨K, rfl, hK, hn, rfl⟩
  refine ⟨fun hi => ⟨by omega, vc_sz _, vc_k0 _ _ (by omega) (by omega), ?_⟩, fun hi => ?_⟩
  · rw [vc_0 _ _ (by omega) (by omega), Int.toNat_natCast]
    refine ⟨fun h => ?_, fun h => ?_⟩
    · rw [if_pos (List.any_eq_true.2 ⟨_, getD_memV L K (by omega), by simpa using h⟩)]; rfl
    · refine ⟨L.length - (K + 1), by omega, K + 1, by rw [i64_in _ (by omega)]; omega, by omega, ?_, rfl⟩
      rw [take_v L K (by omega), List.any_append, hn]
      simpa using h
  have e : K = L.length := by omega
  subst e
  rw [List.take_length] at hn
  rw [if_neg (by rw [hn]; simp)]
  refine ⟨fun h => ?_, fun h6 => ?_⟩
  · exact ⟨_, _, _, _, c_rsev f L hV hk h, rfl⟩
  · have e : sevV f L = singleV f (L.getD 0 nul) := by
      unfold sevV
      rw [if_neg (show ¬ f = wInstr from fun e => h6 (.inl (.inl (.inl e)))), if_neg (show ¬ f = wReplace from fun e => h6 (.inl (.inl (.inr e)))), if_neg (show ¬ f = wSubstr from fun e => h6 (.inl (.inr e))), if_neg (show ¬ f = wLike from fun e => h6 (.inr e))]
    rw [e, vc_vD _ (0 : Int) (by omega) (by omega)]
    exact ⟨by omega, vc_sz _, vc_k _ _ (by omega) (by omega), _, _, _, _, c_rsingle f _ (hV _ g0), rfl⟩
end Go.Proofs.YtabakkdlcjpjfaaDoor
namespace Go.Proofs.YtabakkdlcjpjfaaDoor
open Go.RowKit Go.IntWalk
set_option linter.unusedSimpArgs false
set_option linter.unusedVariables false

theorem great_no {L : List V3} (h : greatB L = false) : L.length ≤ 21 ∧ ∀ v ∈ L, v.2.2.length ≤ 5000 := by
  unfold greatB at h
  rw [Bool.or_eq_false_iff] at h
  obtain ⟨h1, h2⟩ := h
  refine ⟨by have := of_decide_eq_false h1; omega, fun v hv => ?_⟩
  have h3 := List.any_eq_false.1 h2 v hv
  simp only [decide_eq_true_eq] at h3
  omega
theorem walkCalls (op : List UInt8) (L : List V3) (q : ∀ v ∈ L, ValOk v) (n : L.length ≤ maxLen) : FnC Tryd.prog 3 [sD op, .c (.vs (vc L))] (bD true) := by
  refine w3 (bs op) (vc L) ⟨_, c_awake, _, fun _ => c_great L n, ?_⟩
  rw [vc_len, bs_size]
  refine ⟨fun _ => ⟨_, c_awake, rfl⟩, fun h => ?_⟩
  have hg : greatB L = false := Bool.eq_false_iff.2 fun e => h (.inl (.inr e))
  have hp : op.length ≤ 1000 := by
    by_cases e : (1000 : Int) < (op.length : Int)
    · exact absurd (.inr e) h
    · omega
  obtain ⟨h1, h2⟩ := great_no hg
  have hop : Sm op := by unfold Sm; omega
  have hV : ∀ v ∈ L, Vs v := fun v hv => ⟨(q v hv).1, (q v hv).2.1, by have := h2 v hv; unfold Sm; omega⟩
  rintro x4 rfl
  refine ⟨vc_sz _, by simp only [List.length_nil]; omega, ?_⟩
  rintro x5 rfl
  rw [List.nil_append]
  refine ⟨_, _, _, _, c_CallV op hop L (by omega) hV, _, _, _, _, c_rCallV op hop L (by omega) hV, _, fun _ => c_r4Check _, _, fun _ => c_Known op L.length hop, _, fun _ => c_rKnown op L.length hop (by omega), ?_⟩
  have hr := res_ok op L
  refine ⟨fun h => ?_, fun _ => ?_⟩
  · exfalso
    rcases h with ((h | h) | h) | h
    · exact h rfl
    · exact h ⟨rfl, rfl, rfl, rfl⟩
    · exact h hr
    · exact h rfl
  · refine ⟨fun i m => ∃ K : Nat, i = K ∧ K ≤ L.length ∧ m = L.length - K, ⟨_, 0, rfl, by omega, rfl⟩, ?_⟩
    rintro m i ⟨K, rfl, hK, rfl⟩
    rw [vc_len]
    refine ⟨fun hi => ⟨by omega, vc_k _ _ (by omega) (by omega), by omega, vc_sz _, vc_k _ _ (by omega) (by omega), fun h => absurd ⟨rfl, rfl, rfl, rfl⟩ h, fun _ => ⟨L.length - (K + 1), by omega, K + 1, by rw [i64_in _ (by omega)]; omega, by omega, rfl⟩⟩, fun _ => rfl⟩
end Go.Proofs.YtabakkdlcjpjfaaDoor
