/- Plain facts: texts as lists of bytes, rows of bytes, wrapped numbers, decimal digits. No condition. Plain laws on 64-bit numbers: when a sum, a difference or a product fits. No condition. Closed data of the values' types, and contracts of calls that leave the world alone. No condition. What text.Num and the document's Num compute: the digits of a number. Condition: a number of 64 bits. What text.Read and the document's Read compute: the number of a text. Condition: a text that a machine can hold. What text.Read computes: the number of a text. Condition: a text that a machine can hold. What the document's Num and Read compute: the digits of a number, and the number of a text. Conditions: a number of 64 bits; a text that a machine can hold. What the small functions of package value and of its document's answer compute. Conditions: numbers of 64 bits, texts that a machine can hold. What text.Fold computes: a text in small letters. Condition: a text that a machine can hold. What Compare, Arith, Join, Cast and Fits of package value compute, and what the document's do. Conditions: numbers of 64 bits, texts that a machine can hold. Rows of values, as closed data. No condition. Plain laws: the order of values and of rows of values is a total preorder. No condition. -/
import Derived.Test.YteljlbgjpnfdjaaAb19
import Derived.IntWalk
import Derived.Laws.RangeString
import Derived.Laws.RangeAny
import Derived.Test.YteljlbgjpnfdjaaAbW
import Derived.Lib.IndexAny
import Derived.Test.YteljlbgjpnfdjaaShelf
namespace Go.Proofs.Yteljlbgjpnfdjaa
open Go.RowKit Go.IntWalk
set_option linter.unusedSimpArgs false
set_option linter.unusedVariables false

/-- the text of some bytes -/
def bs (l : List UInt8) : ByteArray := ⟨l.toArray⟩
theorem bs_of (s : ByteArray) : s = bs s.data.toList := by cases s; simp [bs]
theorem mk_bs (l : List UInt8) : ByteArray.mk l.toArray = bs l := rfl
theorem bs_size (l : List UInt8) : (bs l).size = l.length := by simp [bs, ByteArray.size]
theorem bs_data (l : List UInt8) : (bs l).data.toList = l := by simp [bs]
theorem bs_toList (l : List UInt8) : (bs l).toList = l := by rw [Lib.toList_data, bs_data]
theorem bs_inj (l m : List UInt8) : bs l = bs m ↔ l = m := by
  constructor
  · intro h
    have := congrArg (fun s : ByteArray => s.data.toList) h
    simpa [bs] using this
  · intro h; rw [h]
theorem ba_ext {a b : ByteArray} (h : a.data.toList = b.data.toList) : a = b := by rw [bs_of a, bs_of b, h]
theorem bs_append (l m : List UInt8) : bs l ++ bs m = bs (l ++ m) := by
  apply ba_ext
  rw [bs_data]
  simp [bs]
theorem byteAt_bs (l : List UInt8) (i : Int) : byteAt (bs l) i = ((l.getD i.toNat 0).toNat : Int) := by
  simp [byteAt, bs, List.getD_eq_getElem?_getD, Array.getD_eq_getD_getElem?]
/-- rows of bytes -/
def bc (l : List UInt8) : List (List CV) := l.map fun b => [.v (.int .u8 (b.toNat : Int))]
theorem bc_cells (s : ByteArray) : byteCells s = bc s.data.toList := rfl
theorem bc_bs (l : List UInt8) : byteCells (bs l) = bc l := by rw [bc_cells, bs_data]
theorem bc_len (l : List UInt8) : (bc l).length = l.length := by simp [bc]
theorem bc_take (l : List UInt8) (n : Nat) : (bc l).take n = bc (l.take n) := by simp [bc]
theorem bc_str (l : List UInt8) : ByteArray.mk ((bc l).map fun el => UInt8.ofNat (el.getD 0 default).int.toNat).toArray = bs l := by
  unfold bs bc
  rw [List.map_map]
  congr 2
  conv => rhs; rw [← List.map_id l]
  apply List.map_congr_left
  intro b _
  simp [CV.int]
theorem bc_all (l : List UInt8) : ∀ el ∈ bc l, ∃ z : Int, el = [.v (.int .u8 z)] := by
  intro el h
  simp only [bc, List.mem_map] at h
  obtain ⟨b, _, rfl⟩ := h
  exact ⟨_, rfl⟩
theorem bc_getD (l : List UInt8) (i : Nat) (h : i < l.length) : (bc l).getD i [] = [.v (.int .u8 ((l.getD i 0).toNat : Int))] := by
  simp [bc, List.getD_eq_getElem?_getD, h]
theorem bc_at (l : List UInt8) (i : Int) (h0 : 0 ≤ i) (h : i < l.length) : (cellAt (bc l) i 0).int = ((l.getD i.toNat 0).toNat : Int) := by
  unfold cellAt
  rw [bc_getD l i.toNat (by omega)]
  rfl
theorem bc_kind (l : List UInt8) (i : Int) (h0 : 0 ≤ i) (h : i < l.length) : [5] = ((((bc l).getD i.toNat []).drop 0).take 1).map kindC := by
  rw [bc_getD l i.toNat (by omega)]
  rfl
theorem bc_set (l : List UInt8) (i : Nat) (z : Int) (b : UInt8) (hz : z = (b.toNat : Int)) : (bc l).set i (overL ((bc l).getD i []) 0 [.v (.int .u8 z)]) = bc (l.set i b) := by
  subst hz
  by_cases h : i < l.length
  · rw [bc_getD l i h]
    simp [overL, bc, List.map_set]
  · rw [List.set_eq_of_length_le (by rw [bc_len]; omega), List.set_eq_of_length_le (by omega)]
/- decimal digits -/
def dig1 (n : Nat) : UInt8 := UInt8.ofNat (48 + n % 10)
def digs (n : Nat) : List UInt8 := if _h : n < 10 then [dig1 n] else digs (n / 10) ++ [dig1 n]
termination_by n
decreasing_by omega
theorem digs_lt {n : Nat} (h : n < 10) : digs n = [dig1 n] := by rw [digs]; simp [h]
theorem digs_ge {n : Nat} (h : ¬ n < 10) : digs n = digs (n / 10) ++ [dig1 n] := by rw [digs]; simp [h]
theorem digs_pos (n : Nat) : 0 < (digs n).length := by
  by_cases h : n < 10
  · rw [digs_lt h]; simp
  · rw [digs_ge h]; simp
theorem digs_len : ∀ (k n : Nat), n < 10 ^ (k + 1) → (digs n).length ≤ k + 1
  | 0, n, h => by rw [digs_lt (by simpa using h)]; simp
  | k + 1, n, h => by
    by_cases h1 : n < 10
    · rw [digs_lt h1]; simp
    · rw [digs_ge h1]
      have := digs_len k (n / 10) (by rw [Nat.pow_succ] at h; omega)
      simp
      omega
theorem digs_len19 (n : Nat) (h : n ≤ 9223372036854775808) : (digs n).length ≤ 19 := digs_len 18 n (by omega)
/-- behind some rounds: the digits D are laid, the number r is left -/
def NumAt (N r : Nat) (first : Bool) (D : List UInt8) : Prop :=
  (first = true ∧ D = [] ∧ r = N) ∨ (first = false ∧ D ≠ [] ∧ (r = 0 → digs N = D) ∧ (r ≠ 0 → digs N = digs r ++ D))
theorem NumAt.room {N r : Nat} {first : Bool} {D : List UInt8} (h : NumAt N r first D) (hN : N ≤ 9223372036854775808) (hgo : first = true ∨ r ≠ 0) : D.length ≤ 18 := by
  have hl := digs_len19 N hN
  rcases h with ⟨h1, h2, h3⟩ | ⟨h1, h2, h3, h4⟩
  · simp [h2]
  · have := digs_pos r
    rcases hgo with hg | hg
    · rw [h1] at hg; cases hg
    · rw [h4 hg] at hl
      simp at hl
      omega
theorem NumAt.step {N r : Nat} {first : Bool} {D : List UInt8} (h : NumAt N r first D) (hgo : first = true ∨ r ≠ 0) : NumAt N (r / 10) false (dig1 r :: D) := by
  have key : (r / 10 = 0 → digs r = [dig1 r]) ∧ (r / 10 ≠ 0 → digs r = digs (r / 10) ++ [dig1 r]) :=
    ⟨fun h => digs_lt (by omega), fun h => digs_ge (by omega)⟩
  refine .inr ⟨rfl, by simp, fun h0 => ?_, fun h0 => ?_⟩
  · rcases h with ⟨h1, h2, h3⟩ | ⟨h1, h2, h3, h4⟩
    · subst h2 h3; rw [key.1 h0]
    · rcases hgo with hg | hg
      · rw [h1] at hg; cases hg
      · rw [h4 hg, key.1 h0]; simp
  · rcases h with ⟨h1, h2, h3⟩ | ⟨h1, h2, h3, h4⟩
    · subst h2 h3; rw [key.2 h0]
    · rcases hgo with hg | hg
      · rw [h1] at hg; cases hg
      · rw [h4 hg, key.2 h0]; simp
theorem NumAt.done {N r : Nat} {first : Bool} {D : List UInt8} (h : NumAt N r first D) (hf : first = false) (hr : r = 0) : digs N = D := by
  rcases h with ⟨h1, h2, h3⟩ | ⟨h1, h2, h3, h4⟩
  · rw [hf] at h1; cases h1
  · exact h3 hr
end Go.Proofs.Yteljlbgjpnfdjaa
namespace Go.Proofs.Yteljlbgjpnfdjaa
open Go.RowKit
set_option linter.unusedSimpArgs false
set_option linter.unusedVariables false

end Go.Proofs.Yteljlbgjpnfdjaa
namespace Go.Proofs.Yteljlbgjpnfdjaa
open Go.RowKit Go.IntWalk
set_option linter.unusedSimpArgs false
set_option linter.unusedVariables false

abbrev V3 := Int × Int × List UInt8
abbrev iD (n : Int) : DV := .c (.v (.int .i64 n))
abbrev bD (b : Bool) : DV := .c (.v (.bool b))
abbrev sD (l : List UInt8) : DV := .c (.v (.string (bs l)))
abbrev vD (v : V3) : DV := .agg [.v (.int .i64 v.1), .v (.int .i64 v.2.1), .v (.string (bs v.2.2))]
abbrev nul : V3 := (0, 0, [])
abbrev I64 (n : Int) : Prop := -9223372036854775808 ≤ n ∧ n ≤ 9223372036854775807

theorem cells2 {w : World} {X : Nat → Prop} {a b : Value} {vs : List Value} (h : DVRs w X [.c (.v a), .c (.v b)] vs) : vs = [a, b] := by
  match vs, h with
  | [x, y], h =>
    simp only [DVRs, DVR] at h
    obtain ⟨h1, h2, _⟩ := h
    cases h1
    cases h2
    rfl
  | [], h => simp [DVRs] at h
  | [_], h => simp [DVRs] at h
  | _ :: _ :: _ :: _, h => simp [DVRs] at h
theorem fnC_calls2 {P : Program} {f : FuncId} {fn : Func} (hf : P.funcs[f]? = some fn) (hn : (fn.name == "runtime.NumGoroutine") = false) (hb : fn.body.isNone = false) {a b v : Value} (hv : v.oneCell' = true)
    (h : ∀ w, Calls P f #[a, b] w fun e w' => e = .returned v ∧ w' = w) : FnC P f [.c (.v a), .c (.v b)] (.c (.v v)) :=
  FnC.of (canEnter_of hf hn hb) fun w X vs _ _ hvs => by
    rw [cells2 hvs]
    refine (h w).mono ?_
    rintro e w' ⟨rfl, rfl⟩
    refine ⟨v, rfl, ?_, Below.refl _ _⟩
    simp only [DVR]
    exact .v v hv
end Go.Proofs.Yteljlbgjpnfdjaa
namespace Go.Proofs.Yteljlbgjpnfdjaa
open Go.RowKit Go.IntWalk
set_option linter.unusedSimpArgs false
set_option linter.unusedVariables false

end Go.Proofs.Yteljlbgjpnfdjaa
namespace Go.Proofs.Yteljlbgjpnfdjaa
open Go.RowKit Go.IntWalk
set_option linter.unusedSimpArgs false
set_option linter.unusedVariables false

def Sz (l : List UInt8) : Prop := l.length ≤ 9223372036854775807
end Go.Proofs.Yteljlbgjpnfdjaa
namespace Go.Proofs.Yteljlbgjpnfdjaa
open Go.RowKit Go.IntWalk
set_option linter.unusedSimpArgs false
set_option linter.unusedVariables false

end Go.Proofs.Yteljlbgjpnfdjaa
namespace Go.Proofs.Yteljlbgjpnfdjaa
open Go.RowKit Go.IntWalk
set_option linter.unusedSimpArgs false
set_option linter.unusedVariables false

end Go.Proofs.Yteljlbgjpnfdjaa
namespace Go.Proofs.Yteljlbgjpnfdjaa
open Go.RowKit Go.IntWalk
set_option linter.unusedSimpArgs false
set_option linter.unusedVariables false

theorem c_strCompare (a b : List UInt8) : FnC Try.prog 34 [sD a, sD b] (iD (Lib.compareBytes a b)) := by
  have := fnC_calls2 Try.func34 (by kernel_rfl) (by kernel_rfl) (by rfl) (Try.strings_Compare (bs a) (bs b))
  rwa [bs_data, bs_data] at this
theorem c_isNaN (x : Int) : FnC Try.prog 41 [iD x] (bD false) := by
  refine w41 x ?_
  (try simp only [mk_bs, bs_inj, bs_size, bs_toList, bs_append, byteAt_bs])
  (repeat' (first | with_reducible refine ⟨fun _ => ?_, fun _ => ?_⟩ | fail))
  all_goals (simp_all)
theorem c_isNaN64 (x : Int) : FnC Try.prog 42 [iD x] (bD false) := by
  refine w42 x ?_
  (try simp only [mk_bs, bs_inj, bs_size, bs_toList, bs_append, byteAt_bs])
  (repeat' (first | with_reducible refine ⟨fun _ => ?_, fun _ => ?_⟩ | fail))
  all_goals (simp_all)
def cmpI (x y : Int) : Int := if x < y then -1 else if y < x then 1 else 0
theorem c_compare (x y : Int) : FnC Try.prog 32 [iD x, iD y] (iD (cmpI x y)) := by
  refine w32 x y ?_
  (try simp only [mk_bs, bs_inj, bs_size, bs_toList, bs_append, byteAt_bs])
  (repeat' (first | (with_reducible refine ⟨_, (c_isNaN _), ?_⟩) | (with_reducible refine ⟨_, _, (c_isNaN _), ?_⟩) | (with_reducible refine ⟨_, _, _, (c_isNaN _), ?_⟩) | (with_reducible refine ⟨_, _, _, _, (c_isNaN _), ?_⟩) | (with_reducible refine ⟨_, fun _ => (c_isNaN _), ?_⟩) | (with_reducible refine ⟨_, _, fun _ => (c_isNaN _), ?_⟩) | (with_reducible refine ⟨_, _, _, fun _ => (c_isNaN _), ?_⟩) | (with_reducible refine ⟨_, _, _, _, fun _ => (c_isNaN _), ?_⟩) | with_reducible refine ⟨fun _ => ?_, fun _ => ?_⟩ | fail))
  all_goals (((try simp only [cmpI] at *); (repeat' split) <;> (first | rfl | (exfalso; omega) | (simp_all; done) | (simp_all; omega))))
theorem c_compare64 (x y : Int) : FnC Try.prog 33 [iD x, iD y] (iD (cmpI x y)) := by
  refine w33 x y ?_
  (try simp only [mk_bs, bs_inj, bs_size, bs_toList, bs_append, byteAt_bs])
  (repeat' (first | (with_reducible refine ⟨_, (c_isNaN64 _), ?_⟩) | (with_reducible refine ⟨_, _, (c_isNaN64 _), ?_⟩) | (with_reducible refine ⟨_, _, _, (c_isNaN64 _), ?_⟩) | (with_reducible refine ⟨_, _, _, _, (c_isNaN64 _), ?_⟩) | (with_reducible refine ⟨_, fun _ => (c_isNaN64 _), ?_⟩) | (with_reducible refine ⟨_, _, fun _ => (c_isNaN64 _), ?_⟩) | (with_reducible refine ⟨_, _, _, fun _ => (c_isNaN64 _), ?_⟩) | (with_reducible refine ⟨_, _, _, _, fun _ => (c_isNaN64 _), ?_⟩) | with_reducible refine ⟨fun _ => ?_, fun _ => ?_⟩ | fail))
  all_goals (((try simp only [cmpI] at *); (repeat' split) <;> (first | rfl | (exfalso; omega) | (simp_all; done) | (simp_all; omega))))

theorem c_vNum (n : Int) : FnC Try.prog 17 [iD n] (vD (1, n, [])) := by
  refine w17 n ?_
  (try simp only [mk_bs, bs_inj, bs_size, bs_toList, bs_append, byteAt_bs])
  (repeat' (first | with_reducible refine ⟨fun _ => ?_, fun _ => ?_⟩ | fail))
  all_goals (rfl)
theorem c_vStr (s : List UInt8) : FnC Try.prog 30 [sD s] (vD (2, 0, s)) := by
  refine w30 (bs s) ?_
  (try simp only [mk_bs, bs_inj, bs_size, bs_toList, bs_append, byteAt_bs])
  (repeat' (first | with_reducible refine ⟨fun _ => ?_, fun _ => ?_⟩ | fail))
  all_goals (rfl)
def bareV (v : V3) : V3 × Bool := if v.1 = 0 then (nul, true) else if v.1 = 1 then ((1, v.2.1, []), true) else if v.1 = 2 ∨ v.1 = 3 then ((v.1, 0, v.2.2), true) else (nul, false)
theorem c_bare (v : V3) : FnC Try.prog 31 [vD v] (.tup [vD (bareV v).1, bD (bareV v).2]) := by
  refine w31 v.1 v.2.1 (bs v.2.2) ?_
  (try simp only [mk_bs, bs_inj, bs_size, bs_toList, bs_append, byteAt_bs])
  (repeat' (first | (with_reducible refine ⟨_, (c_vNum _), ?_⟩) | (with_reducible refine ⟨_, _, (c_vNum _), ?_⟩) | (with_reducible refine ⟨_, _, _, (c_vNum _), ?_⟩) | (with_reducible refine ⟨_, _, _, _, (c_vNum _), ?_⟩) | (with_reducible refine ⟨_, fun _ => (c_vNum _), ?_⟩) | (with_reducible refine ⟨_, _, fun _ => (c_vNum _), ?_⟩) | (with_reducible refine ⟨_, _, _, fun _ => (c_vNum _), ?_⟩) | (with_reducible refine ⟨_, _, _, _, fun _ => (c_vNum _), ?_⟩) | with_reducible refine ⟨fun _ => ?_, fun _ => ?_⟩ | fail))
  all_goals (((try simp only [bareV, nul] at *); (repeat' split) <;> (first | rfl | (exfalso; omega) | (simp_all; done) | (simp_all; omega))))
def checkV (v : V3) : Int := if v.1 < 0 ∨ 3 < v.1 ∨ (v.1 ≠ 1 ∧ v.2.1 ≠ 0) ∨ (v.1 < 2 ∧ v.2.2 ≠ []) then 1 else if 4096 < (v.2.2.length : Int) then 3 else 0
theorem bare_check (v : V3) : ((bareV v).2 = true ∧ v = (bareV v).1) ↔ ¬ (v.1 < 0 ∨ 3 < v.1 ∨ (v.1 ≠ 1 ∧ v.2.1 ≠ 0) ∨ (v.1 < 2 ∧ v.2.2 ≠ [])) := by
  obtain ⟨k, n, s⟩ := v
  simp only [bareV, nul]
  by_cases h0 : k = 0
  · subst h0; simp
  by_cases h1 : k = 1
  · subst h1; simp
  by_cases h2 : k = 2
  · subst h2; simp
  by_cases h3 : k = 3
  · subst h3; simp
  simp [h0, h1, h2, h3]
  omega
theorem c_vCheck (v : V3) : FnC Try.prog 18 [vD v] (iD (checkV v)) := by
  refine w18 v.1 v.2.1 (bs v.2.2) ?_
  refine ⟨_, _, _, _, c_bare v, ?_⟩
  have hb := bare_check v
  have e : (v.1 = (bareV v).1.1 ∧ v.2.1 = (bareV v).1.2.1 ∧ bs v.2.2 = bs (bareV v).1.2.2 ∧ (true = true)) ↔ v = (bareV v).1 := by
    rw [bs_inj]
    constructor
    · rintro ⟨h1, h2, h3, _⟩
      exact Prod.ext h1 (Prod.ext h2 h3)
    · intro h; rw [← h]; simp
  rw [e, bs_size]
  have e2 : (¬ (bareV v).2 = true ∨ ¬ v = (bareV v).1) ↔ (v.1 < 0 ∨ 3 < v.1 ∨ (v.1 ≠ 1 ∧ v.2.1 ≠ 0) ∨ (v.1 < 2 ∧ v.2.2 ≠ [])) := by
    rw [← Classical.not_and_iff_not_or_not, hb, Classical.not_not]
  rw [e2]
  refine ⟨fun h => ?_, fun h => ⟨fun h2 => ?_, fun h2 => ?_⟩⟩
  · simp only [checkV, h, if_true]
  · simp only [checkV, h, h2, if_true, if_false]
  · simp only [checkV, h, h2, if_false]
end Go.Proofs.Yteljlbgjpnfdjaa
namespace Go.Proofs.Yteljlbgjpnfdjaa
open Go.RowKit Go.IntWalk
set_option linter.unusedSimpArgs false
set_option linter.unusedVariables false

def low (c : UInt8) : UInt8 := if 65 ≤ c ∧ c ≤ 90 then c + 32 else c
def foldL (l : List UInt8) : List UInt8 := l.map low
/-- a text of which the first k letters are small -/
def foldK (l : List UInt8) (k : Nat) : List UInt8 := foldL (l.take k) ++ l.drop k
theorem foldK_len (l : List UInt8) (k : Nat) : (foldK l k).length = l.length := by simp [foldK, foldL]; omega
theorem foldK_at (l : List UInt8) (k : Nat) (h : k < l.length) : (foldK l k)[k]'(by rw [foldK_len]; exact h) = l[k] := by
  unfold foldK
  rw [List.getElem_append_right (by simp [foldL]; omega)]
  simp [foldL, Nat.min_eq_left (Nat.le_of_lt h)]
theorem foldK_zero (l : List UInt8) : foldK l 0 = l := by simp [foldK, foldL]
theorem foldK_all (l : List UInt8) : foldK l l.length = foldL l := by simp [foldK]
theorem foldK_step (l : List UInt8) (k : Nat) (h : k < l.length) : (foldK l k).set k (low l[k]) = foldK l (k + 1) := by
  unfold foldK
  rw [List.set_append_right _ _ (by simp [foldL]; omega)]
  have e : k - (foldL (l.take k)).length = 0 := by simp [foldL]; omega
  rw [e, List.drop_eq_getElem_cons h, List.set_cons_zero, List.take_succ_eq_append_getElem h]
  simp [foldL]
  rw [List.take_succ_eq_append_getElem (by simpa using h)]
  simp
theorem foldK_stay (l : List UInt8) (k : Nat) (h : k < l.length) (hc : low l[k] = l[k]) : foldK l k = foldK l (k + 1) := by
  rw [← foldK_step l k h, hc]
  have := foldK_at l k h
  rw [← this, List.set_getElem_self]

theorem low_stay (c : UInt8) (h : ¬ (65 ≤ (c.toNat : Int) ∧ (c.toNat : Int) ≤ 90)) : low c = c := by
  unfold low
  rw [if_neg]
  rintro ⟨h1, h2⟩
  have h1 : 65 ≤ c.toNat := h1
  have h2 : c.toNat ≤ 90 := h2
  omega
theorem low_up (c : UInt8) (h : 65 ≤ (c.toNat : Int) ∧ (c.toNat : Int) ≤ 90) : ((low c).toNat : Int) = (c.toNat : Int) + 32 := by
  have h1 : 65 ≤ c := by show 65 ≤ c.toNat; omega
  have h2 : c ≤ 90 := by show c.toNat ≤ 90; omega
  unfold low
  rw [if_pos ⟨h1, h2⟩, UInt8.toNat_add]
  simp
  omega
theorem foldL_len (l : List UInt8) : (foldL l).length = l.length := by simp [foldL]
theorem getD_foldK (l : List UInt8) (k : Nat) (h : k < l.length) : (foldK l k).getD k 0 = l.getD k 0 := by
  have := foldK_at l k h
  rw [List.getD_eq_getElem?_getD, List.getD_eq_getElem?_getD, List.getElem?_eq_getElem (by rw [foldK_len]; exact h), this, List.getElem?_eq_getElem h]
theorem getD_at (l : List UInt8) (k : Nat) (h : k < l.length) : l.getD k 0 = l[k] := by
  rw [List.getD_eq_getElem?_getD, List.getElem?_eq_getElem h]; rfl

theorem c_tFold (l : List UInt8) (hs : Sz l) : FnC Try.prog 35 [sD l] (sD (foldL l)) := by
  unfold Sz at hs
  refine w35 (bs l) ?_
  intro x1 hx1
  rw [bc_bs] at hx1
  subst hx1
  rw [bc_len]
  refine ⟨fun rows i k => 0 ≤ i ∧ i ≤ l.length ∧ rows = bc (foldK l i.toNat) ∧ k = l.length - i.toNat, ⟨_, by omega, by omega, by rw [Int.toNat_zero, foldK_zero], rfl⟩, ?_⟩
  rintro k rows i ⟨h0, h1, rfl, rfl⟩
  refine ⟨fun hi => ?_, fun hi => ?_⟩
  · have hk : i.toNat < l.length := by omega
    have hk2 : i < ((foldK l i.toNat).length : Int) := by rw [foldK_len]; omega
    rw [bc_at _ _ h0 hk2, getD_foldK l _ hk, i64_in (i + 1) (by omega)]
    refine ⟨by omega, bc_kind _ _ h0 hk2, fun hc => ?_, fun hc => ?_⟩
    · rw [bc_len, foldK_len]
      refine ⟨by omega, by omega, fun x4 hx4 => ?_⟩
      have e := u8_in ((l.getD i.toNat 0).toNat + 97) (by omega)
      rw [e, bc_set (b := low (l.getD i.toNat 0)) (hz := by rw [u8_in _ (by omega), low_up _ hc]; omega), getD_at l _ hk, foldK_step l _ hk] at hx4
      subst hx4
      refine ⟨_, ?_, by omega, by omega, ?_, rfl⟩
      · omega
      · rw [show (i + 1).toNat = i.toNat + 1 by omega]
    · refine ⟨_, ?_, by omega, by omega, ?_, rfl⟩
      · omega
      · rw [show (i + 1).toNat = i.toNat + 1 by omega, foldK_stay l _ hk (by rw [← getD_at l _ hk]; exact low_stay _ hc)]
  · have e : i.toNat = l.length := by omega
    rw [e, foldK_all, bc_len, foldL_len, Int.toNat_natCast, bc_take, bc_str, ← foldL_len l, List.take_length]
    exact ⟨by omega, bc_all _, rfl⟩
end Go.Proofs.Yteljlbgjpnfdjaa
namespace Go.Proofs.Yteljlbgjpnfdjaa
open Go.RowKit Go.IntWalk
set_option linter.unusedSimpArgs false
set_option linter.unusedVariables false

def cmpV (a b : V3) (coll : Int) : Int :=
  if a.1 ≠ b.1 then cmpI a.1 b.1 else if a.1 = 1 then cmpI a.2.1 b.2.1
  else if a.1 = 2 then (if coll = 1 then Lib.compareBytes (foldL a.2.2) (foldL b.2.2) else Lib.compareBytes a.2.2 b.2.2)
  else if a.1 = 3 then Lib.compareBytes a.2.2 b.2.2 else 0
theorem c_vCompare (a b : V3) (coll : Int) (ha : Sz a.2.2) (hb : Sz b.2.2) : FnC Try.prog 19 [vD a, vD b, iD coll] (iD (cmpV a b coll)) := by
  refine w19 a.1 a.2.1 (bs a.2.2) b.1 b.2.1 (bs b.2.2) coll ?_
  (try simp only [mk_bs, bs_inj, bs_size, bs_toList, bs_append, byteAt_bs])
  (repeat' (first | (with_reducible refine ⟨_, (c_tFold _ ha), ?_⟩) | (with_reducible refine ⟨_, _, (c_tFold _ ha), ?_⟩) | (with_reducible refine ⟨_, _, _, (c_tFold _ ha), ?_⟩) | (with_reducible refine ⟨_, _, _, _, (c_tFold _ ha), ?_⟩) | (with_reducible refine ⟨_, fun _ => (c_tFold _ ha), ?_⟩) | (with_reducible refine ⟨_, _, fun _ => (c_tFold _ ha), ?_⟩) | (with_reducible refine ⟨_, _, _, fun _ => (c_tFold _ ha), ?_⟩) | (with_reducible refine ⟨_, _, _, _, fun _ => (c_tFold _ ha), ?_⟩) | (with_reducible refine ⟨_, (c_tFold _ hb), ?_⟩) | (with_reducible refine ⟨_, _, (c_tFold _ hb), ?_⟩) | (with_reducible refine ⟨_, _, _, (c_tFold _ hb), ?_⟩) | (with_reducible refine ⟨_, _, _, _, (c_tFold _ hb), ?_⟩) | (with_reducible refine ⟨_, fun _ => (c_tFold _ hb), ?_⟩) | (with_reducible refine ⟨_, _, fun _ => (c_tFold _ hb), ?_⟩) | (with_reducible refine ⟨_, _, _, fun _ => (c_tFold _ hb), ?_⟩) | (with_reducible refine ⟨_, _, _, _, fun _ => (c_tFold _ hb), ?_⟩) | (with_reducible refine ⟨_, (c_compare _ _), ?_⟩) | (with_reducible refine ⟨_, _, (c_compare _ _), ?_⟩) | (with_reducible refine ⟨_, _, _, (c_compare _ _), ?_⟩) | (with_reducible refine ⟨_, _, _, _, (c_compare _ _), ?_⟩) | (with_reducible refine ⟨_, fun _ => (c_compare _ _), ?_⟩) | (with_reducible refine ⟨_, _, fun _ => (c_compare _ _), ?_⟩) | (with_reducible refine ⟨_, _, _, fun _ => (c_compare _ _), ?_⟩) | (with_reducible refine ⟨_, _, _, _, fun _ => (c_compare _ _), ?_⟩) | (with_reducible refine ⟨_, (c_compare64 _ _), ?_⟩) | (with_reducible refine ⟨_, _, (c_compare64 _ _), ?_⟩) | (with_reducible refine ⟨_, _, _, (c_compare64 _ _), ?_⟩) | (with_reducible refine ⟨_, _, _, _, (c_compare64 _ _), ?_⟩) | (with_reducible refine ⟨_, fun _ => (c_compare64 _ _), ?_⟩) | (with_reducible refine ⟨_, _, fun _ => (c_compare64 _ _), ?_⟩) | (with_reducible refine ⟨_, _, _, fun _ => (c_compare64 _ _), ?_⟩) | (with_reducible refine ⟨_, _, _, _, fun _ => (c_compare64 _ _), ?_⟩) | (with_reducible refine ⟨_, (c_strCompare _ _), ?_⟩) | (with_reducible refine ⟨_, _, (c_strCompare _ _), ?_⟩) | (with_reducible refine ⟨_, _, _, (c_strCompare _ _), ?_⟩) | (with_reducible refine ⟨_, _, _, _, (c_strCompare _ _), ?_⟩) | (with_reducible refine ⟨_, fun _ => (c_strCompare _ _), ?_⟩) | (with_reducible refine ⟨_, _, fun _ => (c_strCompare _ _), ?_⟩) | (with_reducible refine ⟨_, _, _, fun _ => (c_strCompare _ _), ?_⟩) | (with_reducible refine ⟨_, _, _, _, fun _ => (c_strCompare _ _), ?_⟩) | with_reducible refine ⟨fun _ => ?_, fun _ => ?_⟩ | fail))
  all_goals (((try simp only [cmpV] at *); (repeat' split) <;> (first | rfl | (exfalso; omega) | (simp_all; done) | (simp_all; omega))))
end Go.Proofs.Yteljlbgjpnfdjaa
namespace Go.Proofs.Yteljlbgjpnfdjaa
open Go.RowKit Go.IntWalk
set_option linter.unusedSimpArgs false
set_option linter.unusedVariables false

/-- values as rows -/
def vc (L : List V3) : List (List CV) := L.map fun v => [.v (.int .i64 v.1), .v (.int .i64 v.2.1), .v (.string (bs v.2.2))]
theorem vc_len (L : List V3) : (vc L).length = L.length := by simp [vc]
theorem vc_sz (L : List V3) : ∀ el ∈ vc L, el.length = 3 := by
  intro el h
  simp only [vc, List.mem_map] at h
  obtain ⟨v, _, rfl⟩ := h
  rfl
theorem vc_get (L : List V3) (i : Nat) (h : i < L.length) : (vc L).getD i [] = [.v (.int .i64 (L.getD i nul).1), .v (.int .i64 (L.getD i nul).2.1), .v (.string (bs (L.getD i nul).2.2))] := by simp [vc, h]
theorem vc_k (L : List V3) (i : Int) (h0 : 0 ≤ i) (h : i < L.length) : [4, 4, 10] = ((((vc L).getD i.toNat []).drop 0).take 3).map kindC := by rw [vc_get L _ (by omega)]; rfl
theorem vc_k0 (L : List V3) (i : Int) (h0 : 0 ≤ i) (h : i < L.length) : [4] = ((((vc L).getD i.toNat []).drop 0).take 1).map kindC := by rw [vc_get L _ (by omega)]; rfl
theorem vc_k1 (L : List V3) (i : Int) (h0 : 0 ≤ i) (h : i < L.length) : [4] = ((((vc L).getD i.toNat []).drop 1).take 1).map kindC := by rw [vc_get L _ (by omega)]; rfl
theorem vc_0 (L : List V3) (i : Int) (h0 : 0 ≤ i) (h : i < L.length) : (cellAt (vc L) i 0).int = (L.getD i.toNat nul).1 := by simp only [cellAt]; rw [vc_get L _ (by omega)]; rfl
theorem vc_1 (L : List V3) (i : Int) (h0 : 0 ≤ i) (h : i < L.length) : (cellAt (vc L) i 1).int = (L.getD i.toNat nul).2.1 := by simp only [cellAt]; rw [vc_get L _ (by omega)]; rfl
theorem vc_2 (L : List V3) (i : Int) (h0 : 0 ≤ i) (h : i < L.length) : (cellAt (vc L) i 2).str = bs (L.getD i.toNat nul).2.2 := by simp only [cellAt]; rw [vc_get L _ (by omega)]; rfl
theorem vc_vD (L : List V3) (i : Int) (h0 : 0 ≤ i) (h : i < L.length) : DV.agg [.v (.int .i64 (cellAt (vc L) i 0).int), .v (.int .i64 (cellAt (vc L) i 1).int), .v (.string (cellAt (vc L) i 2).str)] = vD (L.getD i.toNat nul) := by
  rw [vc_0 L i h0 h, vc_1 L i h0 h, vc_2 L i h0 h]

theorem vc_set (L : List V3) (K : Nat) (v : V3) (h : K < L.length) : (vc L).set K (overL ((vc L).getD K []) 0 [.v (.int .i64 v.1), .v (.int .i64 v.2.1), .v (.string (bs v.2.2))]) = vc (L.set K v) := by
  rw [vc_get L K h]
  simp only [vc, List.map_set]; rfl
theorem vc_take (L : List V3) (n : Nat) : (vc L).take n = vc (L.take n) := by simp [vc]
end Go.Proofs.Yteljlbgjpnfdjaa
namespace Go.Proofs.Yteljlbgjpnfdjaa
open Go.RowKit
set_option linter.unusedSimpArgs false
set_option linter.unusedVariables false

theorem ob_refl : ∀ x : List UInt8, Lib.compareBytes x x = 0
  | [] => rfl
  | a :: x => by
    have h : ¬ a < a := fun h => absurd h (UInt8.lt_irrefl a)
    simp only [Lib.compareBytes, h, if_false]
    exact ob_refl x
theorem ob_swap : ∀ x y : List UInt8, Lib.compareBytes y x = -Lib.compareBytes x y
  | [], [] => rfl
  | [], _ :: _ => rfl
  | _ :: _, [] => rfl
  | a :: x, b :: y => by
    have ih := ob_swap x y
    simp only [Lib.compareBytes]
    by_cases h1 : a < b
    · have h2 : ¬ b < a := fun h => absurd (UInt8.lt_trans h1 h) (UInt8.lt_irrefl a)
      simp [h1, h2]
    · by_cases h2 : b < a
      · simp [h1, h2]
      · simp only [h1, h2, if_false]; exact ih
theorem ob_one : ∀ x y : List UInt8, -1 ≤ Lib.compareBytes x y ∧ Lib.compareBytes x y ≤ 1
  | [], [] => by simp [Lib.compareBytes]
  | [], _ :: _ => by simp [Lib.compareBytes]
  | _ :: _, [] => by simp [Lib.compareBytes]
  | a :: x, b :: y => by
    have ih := ob_one x y
    simp only [Lib.compareBytes]
    by_cases h1 : a < b
    · simp [h1]
    · by_cases h2 : b < a
      · simp [h1, h2]
      · simp only [h1, h2, if_false]; exact ih
theorem ob_u8 {a b : UInt8} (h1 : ¬ a < b) (h2 : ¬ b < a) : a = b := UInt8.le_antisymm (UInt8.not_lt.1 h2) (UInt8.not_lt.1 h1)
theorem ob_eq : ∀ x y : List UInt8, Lib.compareBytes x y = 0 → x = y
  | [], [], _ => rfl
  | [], _ :: _, h => by simp [Lib.compareBytes] at h
  | _ :: _, [], h => by simp [Lib.compareBytes] at h
  | a :: x, b :: y, h => by
    simp only [Lib.compareBytes] at h
    by_cases h1 : a < b
    · simp [h1] at h
    · by_cases h2 : b < a
      · simp [h1, h2] at h
      · simp only [h1, h2, if_false] at h
        rw [ob_u8 h1 h2, ob_eq x y h]
theorem ob_trans : ∀ x y z : List UInt8, Lib.compareBytes x y ≤ 0 → Lib.compareBytes y z ≤ 0 → Lib.compareBytes x z ≤ 0
  | [], _, [], _, _ => by simp [Lib.compareBytes]
  | [], _, _ :: _, _, _ => by simp [Lib.compareBytes]
  | _ :: _, [], _, h, _ => by simp [Lib.compareBytes] at h
  | _ :: _, _ :: _, [], _, h => by simp [Lib.compareBytes] at h
  | a :: x, b :: y, c :: z, hx, hy => by
    have ih := ob_trans x y z
    simp only [Lib.compareBytes] at hx hy ⊢
    by_cases h1 : a < c
    · simp [h1]
    · by_cases h2 : a < b
      · by_cases h3 : b < c
        · exact absurd (UInt8.lt_trans h2 h3) h1
        · by_cases h4 : c < b
          · simp [h3, h4] at hy
          · have := ob_u8 h3 h4
            subst this
            exact absurd h2 h1
      · by_cases h3 : b < a
        · simp [h2, h3] at hx
        · have := ob_u8 h2 h3
          subst this
          by_cases h4 : c < a
          · simp [h1, h4] at hy
          · simp only [h1, h4, if_false] at hy ⊢
            simp only [UInt8.lt_irrefl, if_false] at hx
            exact ih hx hy
/-- a way to compare that is a total preorder -/
structure FineO {α : Type} (f : α → α → Int) : Prop where
  refl : ∀ a, f a a = 0
  swap : ∀ a b, f b a = -f a b
  trans : ∀ a b c, f a b ≤ 0 → f b c ≤ 0 → f a c ≤ 0
  rng : ∀ a b, -1 ≤ f a b ∧ f a b ≤ 1
theorem oi_swap (x y : Int) : cmpI y x = -cmpI x y := by
  unfold cmpI
  split <;> split <;> first | omega | (split <;> omega)
theorem oi_trans (x y z : Int) (h1 : cmpI x y ≤ 0) (h2 : cmpI y z ≤ 0) : cmpI x z ≤ 0 := by
  unfold cmpI at *
  split <;> (try split) <;> (try split at h1) <;> (try split at h1) <;> (try split at h2) <;> (try split at h2) <;> omega
theorem fineO_int : FineO cmpI := ⟨fun x => by unfold cmpI; simp, oi_swap, oi_trans, fun x y => by unfold cmpI; split <;> (try split) <;> omega⟩
theorem fineO_bytes : FineO Lib.compareBytes := ⟨ob_refl, ob_swap, ob_trans, ob_one⟩
theorem FineO.map {α β : Type} {f : α → α → Int} (h : FineO f) (g : β → α) : FineO fun a b => f (g a) (g b) := ⟨fun _ => h.refl _, fun _ _ => h.swap _ _, fun _ _ _ => h.trans _ _ _, fun _ _ => h.rng _ _⟩
theorem fineO_zero (α : Type) : FineO fun (_ _ : α) => (0 : Int) := ⟨fun _ => rfl, fun _ _ => rfl, fun _ _ _ _ _ => by omega, fun _ _ => by omega⟩
theorem FineO.neg {α : Type} {f : α → α → Int} (h : FineO f) : FineO fun a b => -f a b := ⟨fun a => by rw [h.refl]; rfl, fun a b => by rw [h.swap a b], fun a b c h1 h2 => by
  have := h.trans c b a (by rw [h.swap b c]; exact h2) (by rw [h.swap a b]; exact h1)
  rw [h.swap a c] at this
  exact this, fun a b => by have := h.rng a b; omega⟩
theorem FineO.eq0 {α : Type} {f : α → α → Int} (h : FineO f) {a b c : α} (h1 : f a b = 0) : f a c = f b c := by
  have e1 := h.swap a b
  have t1 := h.trans a b c
  have t2 := h.trans b a c
  have t3 := h.trans c a b
  have t4 := h.trans c b a
  have s1 := h.swap a c
  have s2 := h.swap b c
  have r1 := h.rng a c
  have r2 := h.rng b c
  rcases Int.lt_trichotomy (f a c) 0 with g | g | g <;> rcases Int.lt_trichotomy (f b c) 0 with g' | g' | g' <;> omega
/-- by one, then by another -/
theorem FineO.next {α : Type} {f g : α → α → Int} (hf : FineO f) (hg : FineO g) : FineO fun a b => if f a b = 0 then g a b else f a b := by
  refine ⟨fun a => ?_, fun a b => ?_, fun a b c h1 h2 => ?_, fun a b => ?_⟩
  · rw [if_pos (hf.refl a)]; exact hg.refl a
  · have e := hf.swap a b
    have e2 := hg.swap a b
    by_cases h : f a b = 0
    · rw [if_pos h, if_pos (by omega), e2]
    · rw [if_neg h, if_neg (by omega), e]
  · by_cases e1 : f a b = 0
    · rw [hf.eq0 e1]
      rw [if_pos e1] at h1
      by_cases e2 : f b c = 0
      · rw [if_pos e2] at h2 ⊢
        exact hg.trans a b c h1 h2
      · rw [if_neg e2] at h2 ⊢
        exact h2
    · rw [if_neg e1] at h1
      by_cases e2 : f b c = 0
      · have e3 : f a c = f a b := by
          have := hf.swap c a
          have h3 := hf.eq0 e2 (c := a)
          have h4 := hf.swap b a
          omega
        rw [e3, if_neg e1]
        exact h1
      · rw [if_neg e2] at h2
        have t := hf.trans a b c h1 h2
        by_cases e3 : f a c = 0
        · exfalso
          have h3 := hf.eq0 e3 (c := b)
          have h4 := hf.swap b c
          omega
        · rw [if_neg e3]
          exact t
  · split
    · exact hg.rng a b
    · exact hf.rng a b
theorem FineO.lex {α : Type} (k : α → Int) (f : Int → α → α → Int) (hf : ∀ n, FineO (f n)) : FineO fun a b => if k a ≠ k b then cmpI (k a) (k b) else f (k a) a b := by
  have key : ∀ x y : Int, cmpI x y = 0 ↔ x = y := fun x y => by unfold cmpI; split <;> (try split) <;> omega
  have lt : ∀ x y : Int, cmpI x y ≤ 0 ↔ x ≤ y := fun x y => by unfold cmpI; split <;> (try split) <;> omega
  refine ⟨fun a => ?_, fun a b => ?_, fun a b c h1 h2 => ?_, fun a b => ?_⟩
  · simp [(hf _).refl]
  · by_cases e : k a = k b
    · simp only [e, ne_eq, not_true_eq_false, if_false]; exact (hf _).swap a b
    · simp only [ne_eq, e, Ne.symm e, not_false_eq_true, if_true]
      exact oi_swap _ _
  · by_cases e1 : k a = k b
    · by_cases e2 : k b = k c
      · simp only [e1, e2, ne_eq, not_true_eq_false, if_false] at h1 h2 ⊢
        exact (hf _).trans a b c h1 h2
      · simp only [e1, e2, ne_eq, not_false_eq_true, if_true] at h2 ⊢; exact h2
    · by_cases e2 : k b = k c
      · rw [← e2]
        simp only [e1, ne_eq, not_false_eq_true, if_true] at h1 ⊢; exact h1
      · simp only [e1, e2, ne_eq, not_false_eq_true, if_true] at h1 h2
        rw [lt] at h1 h2
        simp only [show ¬ k a = k c from by omega, ne_eq, not_false_eq_true, if_true]
        rw [lt]; omega
  · split
    · exact fineO_int.rng _ _
    · exact (hf _).rng _ _
theorem fineO_cmpV (coll : Int) : FineO fun a b => cmpV a b coll := by
  have h := FineO.lex (α := V3) (fun a => a.1) (fun k a b => if k = 1 then cmpI a.2.1 b.2.1 else if k = 2 then (if coll = 1 then Lib.compareBytes (foldL a.2.2) (foldL b.2.2) else Lib.compareBytes a.2.2 b.2.2) else if k = 3 then Lib.compareBytes a.2.2 b.2.2 else 0) (fun k => by
    by_cases h1 : k = 1
    · simp only [h1, if_true]; exact fineO_int.map (fun a : V3 => a.2.1)
    · by_cases h2 : k = 2
      · by_cases h3 : coll = 1
        · simp only [h2, h3, if_true, h1, if_false]; exact fineO_bytes.map (fun a : V3 => foldL a.2.2)
        · simp only [h2, h3, if_true, h1, if_false]; exact fineO_bytes.map (fun a : V3 => a.2.2)
      · by_cases h3 : k = 3
        · simp only [h1, h2, h3, if_false, if_true]; exact fineO_bytes.map (fun a : V3 => a.2.2)
        · simp only [h1, h2, h3, if_false]; exact fineO_zero _)
  exact h
end Go.Proofs.Yteljlbgjpnfdjaa
