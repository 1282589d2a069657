/- Truths, operators and two values held against each other: what package eval makes of any values. Conditions: numbers of 64 bits, texts that a machine can hold. Expressions as closed data; what Eval of package eval makes of one whose parts are reckoned. -/
import Derived.Test.YtodjimecekaaeaaGreatDoorEz1
import Derived.Test.YtodjimecekaaeaaGreatDoorRows
namespace Go.Proofs.YtodjimecekaaeaaGreatDoor
open Go.RowKit Go.IntWalk
set_option linter.unusedSimpArgs false
set_option linter.unusedVariables false
def tupE (r : V3 × Int) : DV := .tup [vD r.1, iD r.2]
def tru (v : V3) : Bool × Bool × Int := if v.1 ≠ 0 ∧ v.1 ≠ 1 then (false, false, 11) else (v.1 == 1 && !(v.2.1 == 0), v.1 == 1, 0)
theorem c_truth (v : V3) : FnC Tryz.prog 111 [vD v] (.tup [bD (tru v).1, bD (tru v).2.1, iD (tru v).2.2]) := by
 refine w111 v.1 v.2.1 (bs v.2.2) ?_
 unfold tru
 refine ⟨fun h => by rw [if_pos h] <;> rfl, fun h => ?_⟩
 rw [if_neg h]
 exact ⟨_, _, c_vTruth v, rfl⟩
def truV (is known : Bool) : V3 := if known = true then (1, if is then 1 else 0, []) else nul
theorem c_truths (is known : Bool) : FnC Tryz.prog 112 [bD is, bD known] (vD (truV is known)) := by
 refine w112 is known ?_
 unfold truV
 refine ⟨fun h => by rw [if_neg h]; rfl, fun h => ?_⟩
 rw [if_pos (Classical.not_not.1 h)]
 exact ⟨_, _, _, c_vBool is, rfl⟩
def turnV (v : V3) (no : Bool) : V3 := truV (!((v.1 == 1 && !(v.2.1 == 0)) == no)) (v.1 == 1)
theorem c_eturned (v : V3) (no : Bool) : FnC Tryz.prog 90 [vD v, bD no] (vD (turnV v no)) :=
 w90 v.1 v.2.1 (bs v.2.2) no ⟨_, _, c_vTruth v, _, _, _, c_truths _ _, rfl⟩
def wNot : List UInt8 := [110, 111, 116]
def wAnd : List UInt8 := [97, 110, 100]
def wOr : List UInt8 := [111, 114]
def unV (op : List UInt8) (v : V3) : V3 × Int :=
 if op = wNot then (truV (if (!(tru v).1) = true then ((tru v).2.2 == 0) else false) (tru v).2.1, (tru v).2.2)
 else if op = [45] then (if v.1 = 0 then (nul, 0) else if ¬ v.1 = 1 then (nul, 11) else arithV [45] (1, 0, []) v)
 else if op = [43] then (if v.1 = 0 then (nul, 0) else if ¬ v.1 = 1 then (nul, 11) else ((1, v.2.1, []), 0))
 else (nul, 1)
theorem c_Un (op : List UInt8) (v : V3) (h : I64 v.2.1) : FnC Tryz.prog 87 [sD op, vD v] (tupE (unV op v)) := by
 refine w87 (bs op) v.1 v.2.1 (bs v.2.2) ?_
 simp only [mk_bs, bs_inj]
 unfold unV
 refine ⟨fun h => ?_, fun h0 => ?_⟩
 · rw [if_pos (show op = wNot from h)]
   exact ⟨_, _, _, c_truth v, _, _, _, c_truths _ _, rfl⟩
 rw [if_neg (show ¬ op = wNot from h0)]
 refine ⟨fun h1 => ⟨fun h2 => ?_, fun h2 => ⟨fun h3 => ?_, fun h3 => ⟨fun _ => ?_, fun h4 => absurd h1 h4⟩⟩⟩, fun h1 => ?_⟩
 · rw [if_pos h1, if_pos h2]; rfl
 · rw [if_pos h1, if_neg h2, if_pos h3]; rfl
 · rw [if_pos h1, if_neg h2, if_neg h3]
   exact ⟨_, _, _, c_vNum 0, _, _, _, _, c_vArith [45] (1, 0, []) v (by constructor <;> decide) h, rfl⟩
 rw [if_neg h1]
 refine ⟨fun h5 => ⟨fun h2 => ?_, fun h2 => ⟨fun h3 => ?_, fun h3 => ⟨fun h4 => absurd h4 h1, fun _ => ?_⟩⟩⟩, fun h5 => ?_⟩
 · rw [if_pos h5, if_pos h2]; rfl
 · rw [if_pos h5, if_neg h2, if_pos h3]; rfl
 · rw [if_pos h5, if_neg h2, if_neg h3]
   exact ⟨_, _, _, c_vNum _, rfl⟩
 · rw [if_neg h5]; rfl
def relB (op : List UInt8) (c : Int) : Bool :=
 if op = [61] then c == 0 else if op = [60, 62] then !(c == 0) else if op = [60] then decide (c < 0) else if op = [60, 61] then decide (c ≤ 0) else if op = [62] then decide (0 < c) else if op = [62, 61] then decide (0 ≤ c) else false
def heldV (op : List UInt8) (a b : V3) : V3 := truV (relB op (cmpV a b 0)) (if (!(a.1 == 0)) = true then !(b.1 == 0) else false)
theorem c_held (op : List UInt8) (a b : V3) (ha : Sz a.2.2) (hb : Sz b.2.2) : FnC Tryz.prog 93 [sD op, vD a, vD b] (vD (heldV op a b)) := by
 refine w93 (bs op) a.1 a.2.1 (bs a.2.2) b.1 b.2.1 (bs b.2.2) ⟨_, c_vCompare a b 0 ha hb, ?_⟩
 simp only [mk_bs, bs_inj]
 unfold heldV relB
 (repeat' (first | with_reducible refine ⟨fun _ => ?_, fun _ => ?_⟩ | fail))
 all_goals (simp only [*, if_true, if_false, if_pos, if_neg, not_false_eq_true]; exact ⟨_, _, _, c_truths _ _, rfl⟩)
def bothV (a b : V3) (sure : Bool) : V3 × Int :=
 if (tru a).2.2 ≠ 0 then (nul, (tru a).2.2) else if (tru b).2.2 ≠ 0 then (nul, (tru b).2.2)
 else if ((tru a).2.1 = true ∧ (tru a).1 = sure) ∨ ((tru b).2.1 = true ∧ (tru b).1 = sure) then (truV sure true, 0)
 else (truV (!sure) ((tru a).2.1 && (tru b).2.1), 0)
theorem c_both (a b : V3) (sure : Bool) : FnC Tryz.prog 92 [vD a, vD b, bD sure] (tupE (bothV a b sure)) := by
 refine w92 a.1 a.2.1 (bs a.2.2) b.1 b.2.1 (bs b.2.2) sure ?_
 unfold bothV
 have e0 : ∀ {α : Type} (x y : α), (if ((0 : Int) == 0) = true then x else y) = x := fun x y => rfl
 have e1 : ∀ {α : Type} (x y : α), (if ((1 : Int) == 0) = true then x else y) = y := fun x y => rfl
 have t1 : ∀ c : Bool, (if true = true then c else false) = c := fun c => rfl
 have t2 : ∀ c d : Bool, (if c = true then d else false) = (c && d) := fun c d => by cases c <;> rfl
 refine ⟨fun kn i m => (i = 0 ∧ kn = true ∧ m = 2) ∨ (i = 1 ∧ kn = (tru a).2.1 ∧ (tru a).2.2 = 0 ∧ m = 1) ∨ (i = 2 ∧ kn = ((tru a).2.1 && (tru b).2.1) ∧ (tru a).2.2 = 0 ∧ (tru b).2.2 = 0 ∧ m = 0), ⟨_, .inl ⟨rfl, rfl, rfl⟩⟩, ?_⟩
 rintro m kn i (⟨rfl, rfl, rfl⟩ | ⟨rfl, rfl, ha, rfl⟩ | ⟨rfl, rfl, ha, hb, rfl⟩)
 · refine ⟨fun _ => ⟨by omega, ?_⟩, fun h => absurd h (by omega)⟩
   simp only [e0]
   refine ⟨_, _, _, c_truth a, fun h => ?_, fun h => ⟨1, by omega, .inr (.inl ⟨by decide, by simp, Classical.not_not.1 h, rfl⟩)⟩⟩
   rw [if_pos h]; rfl
 · refine ⟨fun _ => ⟨by omega, ?_⟩, fun h => absurd h (by omega)⟩
   simp only [e1]
   refine ⟨_, _, _, c_truth b, fun h => ?_, fun h => ⟨0, by omega, .inr (.inr ⟨by decide, by rw [t2], ha, Classical.not_not.1 h, rfl⟩)⟩⟩
   rw [if_neg (by simp [ha]), if_pos h]; rfl
 · refine ⟨fun h => absurd h (by omega), fun _ => ?_⟩
   rw [if_neg (by simp [ha]), if_neg (by simp [hb])]
   refine ⟨fun i m => (i = 0 ∧ m = 2) ∨ (i = 1 ∧ ¬ ((tru a).2.1 = true ∧ (tru a).1 = sure) ∧ m = 1) ∨ (i = 2 ∧ ¬ (((tru a).2.1 = true ∧ (tru a).1 = sure) ∨ ((tru b).2.1 = true ∧ (tru b).1 = sure)) ∧ m = 0), ⟨_, .inl ⟨rfl, rfl⟩⟩, ?_⟩
   rintro m i (⟨rfl, rfl⟩ | ⟨rfl, h1, rfl⟩ | ⟨rfl, h1, rfl⟩)
   · refine ⟨fun _ => ⟨by omega, ?_⟩, fun h => absurd h (by omega)⟩
     simp only [e0]
     refine ⟨_, _, _, c_truth a, fun h => ?_, fun h => ⟨1, by omega, .inr (.inl ⟨by decide, h, rfl⟩)⟩⟩
     rw [if_pos (.inl h)]
     exact ⟨_, _, _, c_vBool sure, rfl⟩
   · refine ⟨fun _ => ⟨by omega, ?_⟩, fun h => absurd h (by omega)⟩
     simp only [e1]
     refine ⟨_, _, _, c_truth b, fun h => ?_, fun h => ⟨0, by omega, .inr (.inr ⟨by decide, fun e => e.elim h1 h, rfl⟩)⟩⟩
     rw [if_pos (.inr h)]
     exact ⟨_, _, _, c_vBool sure, rfl⟩
   · refine ⟨fun h => absurd h (by omega), fun _ => ?_⟩
     rw [if_neg h1]
     exact ⟨_, _, _, c_truths _ _, rfl⟩
def arOp (op : List UInt8) : Prop := op = [42] ∨ op = [47] ∨ op = [37] ∨ op = [43] ∨ op = [45]
def cmOp (op : List UInt8) : Prop := op = [61] ∨ op = [60, 62] ∨ op = [60] ∨ op = [60, 61] ∨ op = [62] ∨ op = [62, 61]
instance (op : List UInt8) : Decidable (arOp op) := by unfold arOp; infer_instance
instance (op : List UInt8) : Decidable (cmOp op) := by unfold cmOp; infer_instance
def binV (op : List UInt8) (a b : V3) : V3 × Int :=
 if op = [124, 124] then joinV2 a b else if arOp op then arithV op a b else if cmOp op then (heldV op a b, 0) else if op = wAnd then bothV a b false else if op = wOr then bothV a b true else (nul, 1)
theorem c_Bin (op : List UInt8) (a b : V3) (ha : I64 a.2.1) (hb : I64 b.2.1) (sa : Sz a.2.2) (sb : Sz b.2.2) : FnC Tryz.prog 88 [sD op, vD a, vD b] (tupE (binV op a b)) := by
 have cj := c_vJoin a b ha hb sa sb
 have ca := c_vArith op a b ha hb
 have ch := c_held op a b sa sb
 refine w88 (bs op) a.1 a.2.1 (bs a.2.2) b.1 b.2.1 (bs b.2.2) ?_
 simp only [mk_bs, bs_inj]
 unfold binV
 refine ⟨fun h => ?_, fun h0 => ?_⟩
 · rw [if_pos h]; exact ⟨_, _, _, _, cj, rfl⟩
 rw [if_neg h0]
 have yes : arOp op → ∃ x7 x8 x9 x10, FnC Tryz.prog 113 [sD op, vD a, vD b] (.tup [.agg [.v (.int .i64 x7), .v (.int .i64 x8), .v (.string x9)], .c (.v (.int .i64 x10))]) ∧ DV.tup [.agg [.v (.int .i64 x7), .v (.int .i64 x8), .v (.string x9)], .c (.v (.int .i64 x10))] = tupE (if arOp op then arithV op a b else if cmOp op then (heldV op a b, 0) else if op = wAnd then bothV a b false else if op = wOr then bothV a b true else (nul, 1)) := fun h => by
  rw [if_pos h]; exact ⟨_, _, _, _, ca, rfl⟩
 refine ⟨fun h => yes (.inl h), fun g1 => ⟨fun h => yes (.inr (.inl h)), fun g2 => ⟨fun h => yes (.inr (.inr (.inl h))), fun g3 => ⟨fun h => yes (.inr (.inr (.inr (.inl h)))), fun g4 => ⟨fun h => yes (.inr (.inr (.inr (.inr h)))), fun g5 => ?_⟩⟩⟩⟩⟩
 have na : ¬ arOp op := by rintro (h | h | h | h | h) <;> contradiction
 rw [if_neg na]
 have yes2 : cmOp op → ∃ x7 x8 x9, FnC Tryz.prog 93 [sD op, vD a, vD b] (.agg [.v (.int .i64 x7), .v (.int .i64 x8), .v (.string x9)]) ∧ DV.tup [.agg [.v (.int .i64 x7), .v (.int .i64 x8), .v (.string x9)], .c (.v (.int .i64 0))] = tupE (if cmOp op then (heldV op a b, 0) else if op = wAnd then bothV a b false else if op = wOr then bothV a b true else (nul, 1)) := fun h => by
  rw [if_pos h]; exact ⟨_, _, _, ch, rfl⟩
 refine ⟨fun h => yes2 (.inl h), fun g6 => ⟨fun h => yes2 (.inr (.inl h)), fun g7 => ⟨fun h => yes2 (.inr (.inr (.inl h))), fun g8 => ⟨fun h => yes2 (.inr (.inr (.inr (.inl h)))), fun g9 => ⟨fun h => yes2 (.inr (.inr (.inr (.inr (.inl h))))), fun g10 => ⟨fun h => yes2 (.inr (.inr (.inr (.inr (.inr h))))), fun g11 => ?_⟩⟩⟩⟩⟩⟩
 have nc : ¬ cmOp op := by rintro (h | h | h | h | h | h) <;> contradiction
 rw [if_neg nc]
 refine ⟨fun h => ?_, fun h1 => ⟨fun h => ?_, fun h2 => ?_⟩⟩
 · rw [if_pos (show op = wAnd from h)]; exact ⟨_, _, _, _, c_both a b false, rfl⟩
 · rw [if_neg (show ¬ op = wAnd from h1), if_pos (show op = wOr from h)]; exact ⟨_, _, _, _, c_both a b true, rfl⟩
 · rw [if_neg (show ¬ op = wAnd from h1), if_neg (show ¬ op = wOr from h2)]; rfl
def mayB (v : V3) : Bool := if v.1 = 0 then (v.2.1 == 0 && decide (v.2.2 = [])) else if v.1 = 1 then decide (v.2.2 = []) else if v.1 = 2 ∨ v.1 = 3 then (v.2.1 == 0 && decide (v.2.2.length ≤ 4096)) else false
theorem c_May (v : V3) : FnC Tryz.prog 85 [vD v] (bD (mayB v)) := by
 refine w85 v.1 v.2.1 (bs v.2.2) ?_
 simp only [mk_bs, bs_toList, bs_size]
 unfold mayB
 have e : (v.2.2 == []) = decide (v.2.2 = []) := by cases v.2.2 <;> rfl
 have l : decide ((v.2.2.length : Int) ≤ 4096) = decide (v.2.2.length ≤ 4096) := by
  rw [decide_eq_decide]; omega
 have t2 : ∀ c d : Bool, (if c = true then d else false) = (c && d) := fun c d => by cases c <;> rfl
 rw [e, l, t2, t2]
 refine ⟨fun h => by rw [if_pos h] <;> rfl, fun h0 => ⟨fun h => by rw [if_neg h0, if_pos h] <;> rfl, fun h1 => ⟨fun h => by rw [if_neg h0, if_neg h1, if_pos (.inl h)] <;> rfl, fun h2 => ⟨fun h => by rw [if_neg h0, if_neg h1, if_pos (.inr h)] <;> rfl, fun h3 => by rw [if_neg h0, if_neg h1, if_neg (fun e => e.elim h2 h3)] <;> rfl⟩⟩⟩⟩
def tv (t : Bool × Bool) : V3 := truV t.1 t.2
theorem turn_tv (t : Bool × Bool) (no : Bool) : turnV (tv t) no = tv (!(t.1 == no), t.2) := by
 obtain ⟨i, k⟩ := t
 cases i <;> cases k <;> cases no <;> rfl
def heldT (op : List UInt8) (a b : V3) : Bool × Bool := (relB op (cmpV a b 0), if (!(a.1 == 0)) = true then !(b.1 == 0) else false)
theorem held_T (op : List UInt8) (a b : V3) : heldV op a b = tv (heldT op a b) := rfl
end Go.Proofs.YtodjimecekaaeaaGreatDoor
namespace Go.Proofs.YtodjimecekaaeaaGreatDoor
open Go.RowKit Go.IntWalk
set_option linter.unusedSimpArgs false
set_option linter.unusedVariables false
inductive Xp where
 | mk (k : Int) (op : List UInt8) (v : V3) (tb nm : List UInt8) (sl : Int) (nt ds : Bool) (args : List Xp)
 deriving Inhabited
mutual
def Xp.cells : Xp → List CV
 | .mk k op v tb nm sl nt ds args => [.v (.int .i64 k), .v (.string (bs op)), .v (.int .i64 v.1), .v (.int .i64 v.2.1), .v (.string (bs v.2.2)), .v (.string (bs tb)), .v (.string (bs nm)), .v (.int .i64 sl), .v (.bool nt), .v (.bool ds), .vs (xcs args)]
def xcs : List Xp → List (List CV)
 | [] => []
 | e :: r => e.cells :: xcs r
end
def xD (e : Xp) : DV := .agg e.cells
theorem cells_len : ∀ e : Xp, e.cells.length = 11
 | .mk .. => by simp [Xp.cells]
theorem xcs_len : ∀ l : List Xp, (xcs l).length = l.length
 | [] => rfl
 | e :: r => by simp [xcs, xcs_len r]
theorem xcs_sz : ∀ l : List Xp, ∀ el ∈ xcs l, el.length = 11
 | [], el, h => by simp [xcs] at h
 | e :: r, el, h => by
  simp only [xcs, List.mem_cons] at h
  rcases h with rfl | h
  · exact cells_len e
  · exact xcs_sz r el h
theorem xcs_get : ∀ (l : List Xp) (i : Nat) (h : i < l.length), (xcs l).getD i [] = (l[i]).cells
 | [], i, h => by simp at h
 | e :: r, 0, h => rfl
 | e :: r, i + 1, h => by
  have := xcs_get r i (by simpa using h)
  simpa [xcs] using this
theorem xcs_app : ∀ l r : List Xp, xcs (l ++ r) = xcs l ++ xcs r
 | [], r => rfl
 | e :: l, r => by simp [xcs, xcs_app l r]
theorem xs_k (l : List Xp) (i : Int) (h0 : 0 ≤ i) (h : i < l.length) : [4, 10, 4, 4, 10, 10, 10, 4, 9, 9, 11] = ((((xcs l).getD i.toNat []).drop 0).take 11).map kindC := by
 rw [xcs_get l _ (by omega)]
 cases l[i.toNat]'(by omega)
 simp only [Xp.cells]; rfl
theorem xs_D (l : List Xp) (i : Int) (h0 : 0 ≤ i) (h : i < l.length) : DV.agg [.v (.int .i64 (cellAt (xcs l) i 0).int), .v (.string (cellAt (xcs l) i 1).str), .v (.int .i64 (cellAt (xcs l) i 2).int), .v (.int .i64 (cellAt (xcs l) i 3).int), .v (.string (cellAt (xcs l) i 4).str), .v (.string (cellAt (xcs l) i 5).str), .v (.string (cellAt (xcs l) i 6).str), .v (.int .i64 (cellAt (xcs l) i 7).int), .v (.bool (cellAt (xcs l) i 8).bool), .v (.bool (cellAt (xcs l) i 9).bool), .vs (cellAt (xcs l) i 10).els] = xD (l[i.toNat]'(by omega)) := by
 simp only [cellAt]
 rw [xcs_get l _ (by omega)]
 cases l[i.toNat]'(by omega)
 simp only [xD, Xp.cells]; rfl
def okN (k : Int) (ds : Bool) (n : Nat) : Prop := ((k = 1 ∨ k = 2) ∧ n = 0) ∨ ((k = 3 ∨ k = 12) ∧ n = 1) ∨ ((k = 4 ∨ k = 5 ∨ k = 8) ∧ n = 2) ∨ (k = 6 ∧ 2 ≤ n) ∨ (k = 7 ∧ n = 3) ∨ (k = 9 ∧ 2 ≤ n ∧ (ds = false ∨ 3 ≤ n)) ∨ k = 10
instance (k : Int) (ds : Bool) (n : Nat) : Decidable (okN k ds n) := by unfold okN; infer_instance
def mayV (k : Int) (ds : Bool) (n : Nat) : Int := if k = 11 then 26 else if okN k ds n then 0 else 1
theorem c_emay (k : Int) (op : List UInt8) (v : V3) (tb nm : List UInt8) (sl : Int) (nt ds : Bool) (args : List Xp) : FnC Tryz.prog 58 [xD (.mk k op v tb nm sl nt ds args)] (iD (mayV k ds args.length)) := by
 unfold xD
 simp only [Xp.cells]
 refine w58 k (bs op) v.1 v.2.1 (bs v.2.2) (bs tb) (bs nm) sl nt ds (xcs args) ?_
 rw [xcs_len]
 generalize args.length = n
 have yes : k ≠ 11 → okN k ds n → iD 0 = iD (mayV k ds n) := fun h1 h2 => by rw [mayV, if_neg h1, if_pos h2]
 have no : k ≠ 11 → ¬ okN k ds n → iD 1 = iD (mayV k ds n) := fun h1 h2 => by rw [mayV, if_neg h1, if_neg h2]
 have dsf : ∀ {b : Bool}, ¬ b = true → b = false := fun h => by simpa using h
 (repeat' (first | with_reducible refine ⟨fun _ => ?_, fun _ => ?_⟩ | fail))
 all_goals first
  | (refine yes (by omega) ?_; unfold okN; cases ds <;> simp at * <;> omega)
  | (refine no (by omega) ?_; unfold okN; cases ds <;> simp at * <;> omega)
  | (rw [mayV, if_pos (by assumption)] <;> rfl)
  | fail
def errV : List (V3 × Int) → Int
 | [] => 0
 | x :: r => if x.2 = 0 then errV r else x.2
theorem errV_at : ∀ (X : List (V3 × Int)) (i : Nat), i < X.length → (∀ j, j < i → (X.getD j (nul, 0)).2 = 0) → (X.getD i (nul, 0)).2 ≠ 0 → errV X = (X.getD i (nul, 0)).2
 | [], i, h, _, _ => by simp at h
 | x :: r, 0, h, _, hx => by
  have hx : x.2 ≠ 0 := hx
  rw [errV, if_neg hx]; rfl
 | x :: r, i + 1, h, hj, hx => by
  have h0 : x.2 = 0 := hj 0 (by omega)
  rw [errV, if_pos h0]
  exact errV_at r i (by simpa using h) (fun j hji => hj (j + 1) (by omega)) hx
theorem errV_none : ∀ (X : List (V3 × Int)), (∀ j, j < X.length → (X.getD j (nul, 0)).2 = 0) → errV X = 0
 | [], _ => rfl
 | x :: r, h => by
  have h0 : x.2 = 0 := h 0 (by simp)
  rw [errV, if_pos h0]
  exact errV_none r fun j hj => h (j + 1) (by simpa using hj)
def finP (r : V3 × Int) : V3 × Int := if r.2 ≠ 0 then (nul, r.2) else (r.1, 0)
def nodeV (k : Int) (ds : Bool) (n : Nat) (X : List (V3 × Int)) (R : V3 × Int) : V3 × Int :=
 if mayV k ds n ≠ 0 then (nul, mayV k ds n) else if errV X ≠ 0 then (nul, errV X) else finP R
theorem c_Eval_node (k : Int) (op : List UInt8) (v : V3) (tb nm : List UInt8) (sl : Int) (nt ds : Bool) (args : List Xp) (row : List V3) (hk : k ≠ 9) (hn : args.length ≤ 1000000) (X : List (V3 × Int)) (hX : X.length = args.length)
 (hA : mayV k ds args.length = 0 → ∀ i (h : i < args.length), FnC Tryz.prog 31 [xD args[i], .c (.vs (vc row))] (tupE (X.getD i (nul, 0)))) (R : V3 × Int)
 (hR : mayV k ds args.length = 0 → errV X = 0 → FnC Tryz.prog 60 [xD (.mk k op v tb nm sl nt ds args), .c (.vs (vc (X.map (·.1)))), .c (.vs (vc row))] (tupE R)) :
 FnC Tryz.prog 31 [xD (.mk k op v tb nm sl nt ds args), .c (.vs (vc row))] (tupE (nodeV k ds args.length X R)) := by
 have hm := c_emay k op v tb nm sl nt ds args
 unfold xD at hR hm ⊢
 simp only [Xp.cells] at hR hm ⊢
 refine w31 k (bs op) v.1 v.2.1 (bs v.2.2) (bs tb) (bs nm) sl nt ds (xcs args) (vc row) ⟨_, hm, ?_⟩
 unfold nodeV
 refine ⟨fun h => by rw [if_pos h]; rfl, fun h => ?_⟩
 rw [if_neg h]
 have hm0 := Classical.not_not.1 h
 refine ⟨fun h => absurd h hk, fun _ => ?_⟩
 rw [xcs_len]
 refine ⟨by omega, by omega, ?_⟩
 rintro x13 rfl
 rw [Int.toNat_natCast, vc_rep, vc_len, List.length_replicate]
 refine ⟨fun rows i m => ∃ (K : Nat) (L : List V3), rows = vc L ∧ i = K ∧ K ≤ args.length ∧ L.length = args.length ∧ (∀ j, j < K → (X.getD j (nul, 0)).2 = 0 ∧ L.getD j nul = (X.getD j (nul, 0)).1) ∧ m = args.length - K, ⟨_, 0, _, rfl, rfl, by omega, by simp, fun j hj => by omega, rfl⟩, ?_⟩
 rintro m rows i ⟨K, L, rfl, rfl, hK, hL, hJ, rfl⟩
 rw [vc_len, hL]
 refine ⟨fun hi => ⟨by omega, xcs_sz _, xs_k _ _ (by omega) (by omega), ?_⟩, fun hi => ?_⟩
 · rw [xs_D _ _ (by omega) (by omega)]
   have ha := hA hm0 K (by omega)
   have e : args[(K : Int).toNat]'(by omega) = args[K]'(by omega) := by simp
   rw [e]
   refine ⟨_, _, _, _, ha, fun h => ?_, fun h => ⟨by omega, by omega, ?_⟩⟩
   · have := errV_at X K (by omega) (fun j hj => (hJ j hj).1) h
     rw [if_pos (by rw [this]; exact h), this]; rfl
   · rintro x20 rfl
     refine ⟨args.length - (K + 1), by omega, K + 1, L.set K (X.getD K (nul, 0)).1, ?_, by rw [i64_in _ (by omega)]; omega, by omega, by simpa using hL, fun j hj => ?_, rfl⟩
     · rw [Int.toNat_natCast]
       exact vc_set L K _ (by omega)
     · by_cases ej : j = K
       · subst ej
         refine ⟨Classical.not_not.1 h, ?_⟩
         rw [List.getD_eq_getElem?_getD, List.getElem?_set_self (by omega)]; rfl
       · refine ⟨(hJ j (by omega)).1, ?_⟩
         rw [List.getD_eq_getElem?_getD, List.getElem?_set_ne (by omega), ← List.getD_eq_getElem?_getD]
         exact (hJ j (by omega)).2
 · have eK : K = args.length := by omega
   subst eK
   have he := errV_none X fun j hj => (hJ j (by omega)).1
   rw [if_neg (by rw [he]; exact fun h => h rfl)]
   have eL : L = X.map (·.1) := by
    apply List.ext_getElem (by simp [hL, hX])
    intro j h1 h2
    have := (hJ j (by omega)).2
    rw [List.getD_eq_getElem?_getD, List.getElem?_eq_getElem h1, List.getD_eq_getElem?_getD, List.getElem?_eq_getElem (by omega)] at this
    simpa using this
   have hr := hR hm0 he
   rw [← eL] at hr
   rw [Int.toNat_natCast, vc_take, ← hL, List.take_length]
   refine ⟨by omega, _, _, _, _, hr, fun h => ?_, fun h => ?_⟩
   · rw [finP, if_pos h]; rfl
   · rw [finP, if_neg h]; rfl
end Go.Proofs.YtodjimecekaaeaaGreatDoor
namespace Go.Proofs.YtodjimecekaaeaaGreatDoor
open Go.RowKit Go.IntWalk
set_option linter.unusedSimpArgs false
set_option linter.unusedVariables false
theorem fnC_arg {P : Program} {f : FuncId} {args args' : List DV} {res : DV} (h : FnC P f args res) (hw : ∀ w X vs, DVRs w X args' vs → DVRs w X args vs) : FnC P f args' res :=
 ⟨h.1, fun w X vs hg hx hv => h.2 w X vs hg hx (hw _ _ _ hv)⟩
abbrev nilD : DV := .c (.vs [])
theorem nil_row {w : World} {X : Nat → Prop} {r : Value} (h : DVR w X nilD r) : DVR w X (.c (.vs (vc []))) r := h
def inV (a : V3) : List V3 → Bool → V3
 | [], kn => truV false kn
 | v :: R, kn => if (heldV [61] a v).1 = 1 ∧ ¬ (heldV [61] a v).2.1 = 0 then heldV [61] a v else inV a R (if kn = true then (heldV [61] a v).1 == 1 else false)
theorem c_ein (a : V3) (R : List V3) (ha : Sz a.2.2) (hR : ∀ v ∈ R, Sz v.2.2) (hl : R.length ≤ 1000000) : FnC Tryz.prog 91 [.c (.vs (vc (a :: R)))] (vD (inV a R true)) := by
 refine w91 (vc (a :: R)) ?_
 rw [vc_len]
 have hd : (vc (a :: R)).drop (1 : Int).toNat = vc R := by rw [vc_drop]; rfl
 rw [hd, vc_len]
 have hln : ((a :: R).length : Int) = R.length + 1 := by simp
 refine ⟨by omega, vc_sz _, ?_⟩
 refine ⟨fun kn i m => ∃ K : Nat, i = K ∧ K ≤ R.length ∧ inV a R true = inV a (R.drop K) kn ∧ m = R.length - K, ⟨_, 0, rfl, by omega, rfl, rfl⟩, ?_⟩
 rintro m kn i ⟨K, rfl, hK, hi0, rfl⟩
 refine ⟨fun hi => ⟨by omega, vc_sz _, vc_k _ _ (by omega) (by omega), by omega, vc_sz _, vc_k _ _ (by omega) (by simp), ?_⟩, fun hi => ?_⟩
 · rw [vc_vD (a :: R) (0 : Int) (by omega) (by simp), vc_vD R _ (by omega) (by omega), Int.toNat_natCast]
   have hdK : R.drop K = R.getD K nul :: R.drop (K + 1) := by
    rw [List.drop_eq_getElem_cons (by omega)]
    congr 1
    simp [List.getD_eq_getElem?_getD, show K < R.length by omega]
   have hm : Sz (R.getD K nul).2.2 := by
    refine hR _ ?_
    rw [List.getD_eq_getElem?_getD, List.getElem?_eq_getElem (by omega)]
    exact List.getElem_mem _
   refine ⟨_, _, _, c_held [61] a (R.getD K nul) ha hm, _, _, c_vTruth _, fun h => ?_, fun h => ?_⟩
   · have h1 : (heldV [61] a (R.getD K nul)).1 = 1 := by simpa using h.1
     have h2 : ¬ (heldV [61] a (R.getD K nul)).2.1 = 0 := by
      have := h.2
      simp only [Bool.and_eq_true, Bool.not_eq_true', beq_eq_false_iff_ne] at this
      exact this.2
     rw [hi0, hdK, inV, if_pos ⟨h1, h2⟩]
   · refine ⟨R.length - (K + 1), by omega, K + 1, by rw [i64_in _ (by omega)]; omega, by omega, ?_, rfl⟩
     rw [hi0, hdK, inV, if_neg]
     rintro ⟨h1, h2⟩
     exact h ⟨beq_iff_eq.2 h1, by rw [Bool.and_eq_true]; exact ⟨beq_iff_eq.2 h1, by rw [Bool.not_eq_true', beq_eq_false_iff_ne]; exact h2⟩⟩
 · have e : K = R.length := by omega
   rw [hi0, e, List.drop_length, inV]
   exact ⟨_, _, _, c_truths false kn, rfl⟩
section
variable (k : Int) (op : List UInt8) (v : V3) (tb nm : List UInt8) (sl : Int) (nt ds : Bool) (args : List Xp) (row : List V3)
theorem reck_val : FnC Tryz.prog 60 [xD (.mk 1 op v tb nm sl nt ds args), .c (.vs (vc [])), .c (.vs (vc row))] (tupE (v, 0)) := by
 unfold xD
 simp only [Xp.cells]
 exact w60 1 (bs op) v.1 v.2.1 (bs v.2.2) (bs tb) (bs nm) sl nt ds (xcs args) (vc []) (vc row) ⟨fun _ => rfl, fun h => absurd rfl h⟩
theorem reck_un (a : V3) (ha : I64 a.2.1) : FnC Tryz.prog 60 [xD (.mk 3 op v tb nm sl nt ds args), .c (.vs (vc [a])), .c (.vs (vc row))] (tupE (unV op a)) := by
 unfold xD
 simp only [Xp.cells]
 refine w60 3 (bs op) v.1 v.2.1 (bs v.2.2) (bs tb) (bs nm) sl nt ds (xcs args) (vc [a]) (vc row) ?_
 iterate 2 refine ⟨fun h => absurd h (by decide), fun _ => ?_⟩
 refine ⟨fun _ => ?_, fun h => absurd rfl h⟩
 rw [vc_vD _ (0 : Int) (by omega) (by simp)]
 exact ⟨by simp [vc_len], vc_sz _, vc_k _ _ (by omega) (by simp), _, _, _, _, c_Un op a ha, rfl⟩
theorem reck_bin (a b : V3) (ha : I64 a.2.1) (hb : I64 b.2.1) (sa : Sz a.2.2) (sb : Sz b.2.2) : FnC Tryz.prog 60 [xD (.mk 4 op v tb nm sl nt ds args), .c (.vs (vc [a, b])), .c (.vs (vc row))] (tupE (binV op a b)) := by
 unfold xD
 simp only [Xp.cells]
 refine w60 4 (bs op) v.1 v.2.1 (bs v.2.2) (bs tb) (bs nm) sl nt ds (xcs args) (vc [a, b]) (vc row) ?_
 iterate 3 refine ⟨fun h => absurd h (by decide), fun _ => ?_⟩
 refine ⟨fun _ => ?_, fun h => absurd rfl h⟩
 rw [vc_vD _ (0 : Int) (by omega) (by simp), vc_vD _ (1 : Int) (by omega) (by simp)]
 exact ⟨by simp [vc_len], vc_sz _, vc_k _ _ (by omega) (by simp), by simp [vc_len], vc_sz _, vc_k _ _ (by omega) (by simp), _, _, _, _, c_Bin op a b ha hb sa sb, rfl⟩
theorem reck_is (a b : V3) (sa : Sz a.2.2) (sb : Sz b.2.2) : FnC Tryz.prog 60 [xD (.mk 5 op v tb nm sl nt ds args), .c (.vs (vc [a, b])), .c (.vs (vc row))] (tupE (truV (!((cmpV a b 0 == 0) == nt)) true, 0)) := by
 unfold xD
 simp only [Xp.cells]
 refine w60 5 (bs op) v.1 v.2.1 (bs v.2.2) (bs tb) (bs nm) sl nt ds (xcs args) (vc [a, b]) (vc row) ?_
 iterate 4 refine ⟨fun h => absurd h (by decide), fun _ => ?_⟩
 refine ⟨fun _ => ?_, fun h => absurd rfl h⟩
 rw [vc_vD _ (0 : Int) (by omega) (by simp), vc_vD _ (1 : Int) (by omega) (by simp)]
 exact ⟨by simp [vc_len], vc_sz _, vc_k _ _ (by omega) (by simp), by simp [vc_len], vc_sz _, vc_k _ _ (by omega) (by simp), _, c_vCompare a b 0 sa sb, _, _, _, c_vBool _, rfl⟩
theorem reck_in (a : V3) (R : List V3) (ha : Sz a.2.2) (hR : ∀ v ∈ R, Sz v.2.2) (hl : R.length ≤ 1000000) : FnC Tryz.prog 60 [xD (.mk 6 op v tb nm sl nt ds args), .c (.vs (vc (a :: R))), .c (.vs (vc row))] (tupE (turnV (inV a R true) nt, 0)) := by
 unfold xD
 simp only [Xp.cells]
 refine w60 6 (bs op) v.1 v.2.1 (bs v.2.2) (bs tb) (bs nm) sl nt ds (xcs args) (vc (a :: R)) (vc row) ?_
 iterate 5 refine ⟨fun h => absurd h (by decide), fun _ => ?_⟩
 exact ⟨fun _ => ⟨_, _, _, c_ein a R ha hR hl, _, _, _, c_eturned _ nt, rfl⟩, fun h => absurd rfl h⟩
theorem reck_between (a b c : V3) (sa : Sz a.2.2) (sb : Sz b.2.2) (sc : Sz c.2.2) : FnC Tryz.prog 60 [xD (.mk 7 op v tb nm sl nt ds args), .c (.vs (vc [a, b, c])), .c (.vs (vc row))] (tupE (turnV (bothV (heldV [62, 61] a b) (heldV [60, 61] a c) false).1 nt, 0)) := by
 unfold xD
 simp only [Xp.cells]
 refine w60 7 (bs op) v.1 v.2.1 (bs v.2.2) (bs tb) (bs nm) sl nt ds (xcs args) (vc [a, b, c]) (vc row) ?_
 iterate 6 refine ⟨fun h => absurd h (by decide), fun _ => ?_⟩
 refine ⟨fun _ => ?_, fun h => absurd rfl h⟩
 rw [vc_vD _ (0 : Int) (by omega) (by simp), vc_vD _ (1 : Int) (by omega) (by simp), vc_vD _ (2 : Int) (by omega) (by simp)]
 exact ⟨by simp [vc_len], vc_sz _, vc_k _ _ (by omega) (by simp), by simp [vc_len], vc_sz _, vc_k _ _ (by omega) (by simp), _, _, _, c_held [62, 61] a b sa sb,
  by simp [vc_len], vc_sz _, vc_k _ _ (by omega) (by simp), by simp [vc_len], vc_sz _, vc_k _ _ (by omega) (by simp), _, _, _, c_held [60, 61] a c sa sc, _, _, _, _, c_both _ _ false, _, _, _, c_eturned _ nt, rfl⟩
end
end Go.Proofs.YtodjimecekaaeaaGreatDoor
namespace Go.Proofs.YtodjimecekaaeaaGreatDoor
open Go.RowKit Go.IntWalk
set_option linter.unusedSimpArgs false
set_option linter.unusedVariables false
theorem ev_node {k : Int} {op : List UInt8} {v : V3} {tb nm : List UInt8} {sl : Int} {nt ds : Bool} {args : List Xp} {row : List V3} (hk : k ≠ 9) (hn : args.length ≤ 1000000) (L : List V3) (hL : L.length = args.length) (hm : mayV k ds args.length = 0)
 (hA : ∀ i (h : i < args.length), FnC Tryz.prog 31 [xD args[i], .c (.vs (vc row))] (tupE (L.getD i nul, 0))) {R : V3 × Int}
 (hR : FnC Tryz.prog 60 [xD (.mk k op v tb nm sl nt ds args), .c (.vs (vc L)), .c (.vs (vc row))] (tupE R)) :
 FnC Tryz.prog 31 [xD (.mk k op v tb nm sl nt ds args), .c (.vs (vc row))] (tupE (finP R)) := by
 have e1 : ∀ i, i < args.length → (L.map fun v => (v, (0 : Int))).getD i (nul, 0) = (L.getD i nul, 0) := fun i h => by
  simp [List.getD_eq_getElem?_getD, show i < L.length by omega]
 have e2 : errV (L.map fun v => (v, (0 : Int))) = 0 := errV_none _ fun j hj => by
  rw [e1 j (by simpa [hL] using hj)]
 have := c_Eval_node k op v tb nm sl nt ds args row hk hn (L.map fun v => (v, (0 : Int))) (by simp [hL]) (fun _ i h => by rw [e1 i h]; exact hA i h) R (fun _ _ => by
  have e3 : (L.map fun v => (v, (0 : Int))).map (·.1) = L := by rw [List.map_map]; exact List.map_id' L
  rw [e3]; exact hR)
 rw [nodeV, if_neg (by rw [hm]; exact fun h => h rfl), if_neg (by rw [e2]; exact fun h => h rfl)] at this
 exact this
section
variable {row : List V3}
abbrev EvR (row : List V3) (e : Xp) (r : V3 × Int) : Prop := FnC Tryz.prog 31 [xD e, .c (.vs (vc row))] (tupE r)
theorem ev_val1 (v : V3) (nt : Bool) : EvR row (.mk 1 [] v [] [] 0 nt false []) (v, 0) :=
 ev_node (R := (v, 0)) (by decide) (by simp) [] rfl (by decide) (fun i h => by simp at h) (reck_val [] v [] [] 0 nt false [] row)
end
def allV : List (V3 × Int) → Bool × Int
 | [] => (true, 0)
 | x :: r => if x.2 ≠ 0 then (false, x.2) else if (tru x.1).2.2 ≠ 0 ∨ ¬ (tru x.1).1 = true then (false, (tru x.1).2.2) else allV r
theorem i64_small (n : Int) (h : -1000 ≤ n ∧ n ≤ 1000) : I64 n := by unfold I64; omega
theorem sz_nil : Sz ([] : List UInt8) := by unfold Sz; simp
end Go.Proofs.YtodjimecekaaeaaGreatDoor
namespace Go.Proofs.YtodjimecekaaeaaGreatDoor
open Go.RowKit Go.IntWalk
set_option linter.unusedSimpArgs false
set_option linter.unusedVariables false
def enc (i k : Bool) : Int := if k = true then (if i = true then 1 else 0) else -1
def trN (v : V3) : Int × Int := if v.1 = 0 then (-1, 0) else if ¬ v.1 = 1 then (0, 11) else if v.2.1 = 0 then (0, 0) else (1, 0)
theorem trN_tru (v : V3) : (trN v).2 = (tru v).2.2 ∧ ((tru v).2.2 = 0 → (trN v).1 = enc (tru v).1 (tru v).2.1) := by
 by_cases h0 : v.1 = 0
 · simp [trN, tru, enc, h0]
 · by_cases h1 : v.1 = 1
   · by_cases h2 : v.2.1 = 0
     · simp [trN, tru, enc, h1, h2]
     · simp [trN, tru, enc, h1, h2]
   · simp [trN, tru, enc, h0, h1]
theorem c_rTruth (v : V3) : FnC Tryz.prog 49 [vD v] (.tup [iD (trN v).1, iD (trN v).2]) := by
 refine w49 v.1 v.2.1 (bs v.2.2) ?_
 unfold trN
 exact ⟨fun h => by rw [if_pos h], fun h => ⟨fun h1 => by rw [if_neg h, if_pos h1], fun h1 => ⟨fun h2 => by rw [if_neg h, if_neg h1, if_pos h2], fun h2 => by rw [if_neg h, if_neg h1, if_neg h2]⟩⟩⟩
def ofN (t : Int) : V3 := if t < 0 then nul else (1, t, [])
theorem ofN_enc (i k : Bool) : ofN (enc i k) = truV i k := by cases i <;> cases k <;> rfl
theorem c_rOf (t : Int) : FnC Tryz.prog 65 [iD t] (vD (ofN t)) := by
 refine w65 t ?_
 unfold ofN
 exact ⟨fun h => by rw [if_pos h] <;> rfl, fun h => by rw [if_neg h] <;> rfl⟩
theorem c_rOfE (i k : Bool) : FnC Tryz.prog 65 [iD (enc i k)] (vD (truV i k)) := by
 rw [← ofN_enc]; exact c_rOf _
theorem c_rturned (i k : Bool) : FnC Tryz.prog 66 [iD (enc i k)] (iD (enc (!i) k)) := by
 refine w66 (enc i k) ?_
 cases i <;> cases k <;> exact ⟨fun h => by first | rfl | exact absurd h (by decide), fun h => by first | rfl | exact absurd (by decide) h⟩
def andB (s t : Bool × Bool) : Bool × Bool := bT2 s t where
 bT2 (s t : Bool × Bool) : Bool × Bool := if (s.2 = true ∧ s.1 = false) ∨ (t.2 = true ∧ t.1 = false) then (false, true) else (true, s.2 && t.2)
theorem c_rboth (s t : Bool × Bool) : FnC Tryz.prog 47 [iD (enc s.1 s.2), iD (enc t.1 t.2)] (iD (enc (andB s t).1 (andB s t).2)) := by
 refine w47 (enc s.1 s.2) (enc t.1 t.2) ?_
 obtain ⟨s1, s2⟩ := s
 obtain ⟨t1, t2⟩ := t
 cases s1 <;> cases s2 <;> cases t1 <;> cases t2 <;> exact ⟨fun h => by first | rfl | exact absurd h (by decide), fun h => ⟨fun h2 => by first | rfl | exact absurd h2 (by decide) | exact absurd (by decide) h, fun h2 => by first | rfl | exact absurd (by decide) h | exact absurd (by decide) h2⟩⟩
def notB (s : Bool × Bool) : Bool × Bool := (!s.1, s.2)
def orB (s t : Bool × Bool) : Bool × Bool := notB (andB (notB s) (notB t))
theorem c_reither (s t : Bool × Bool) : FnC Tryz.prog 45 [iD (enc s.1 s.2), iD (enc t.1 t.2)] (iD (enc (orB s t).1 (orB s t).2)) :=
 w45 (enc s.1 s.2) (enc t.1 t.2) ⟨_, c_rturned s.1 s.2, _, c_rturned t.1 t.2, _, c_rboth (notB s) (notB t), _, c_rturned (andB (notB s) (notB t)).1 (andB (notB s) (notB t)).2, rfl⟩
theorem c_rheld (op : List UInt8) (a b : V3) (ha : Sz a.2.2) (hb : Sz b.2.2) : FnC Tryz.prog 46 [sD op, vD a, vD b] (iD (enc (relB op (cmpV a b 0)) (if (!(a.1 == 0)) = true then !(b.1 == 0) else false))) := by
 refine w46 (bs op) a.1 a.2.1 (bs a.2.2) b.1 b.2.1 (bs b.2.2) ?_
 simp only [mk_bs, bs_inj]
 refine ⟨fun h => ?_, fun h => ?_⟩
 · have e : (if (!(a.1 == 0)) = true then !(b.1 == 0) else false) = false := by
    rcases h with h | h
    · rw [h]; rfl
    · rw [h]; split <;> rfl
   rw [e]; rfl
 have e : (if (!(a.1 == 0)) = true then !(b.1 == 0) else false) = true := by
  have h1 : ¬ a.1 = 0 := fun e => h (.inl e)
  have h2 : ¬ b.1 = 0 := fun e => h (.inr e)
  simp [h1, h2]
 rw [e]
 refine ⟨_, c_r4Compare a b 0 ha hb, ?_⟩
 generalize cmpV a b 0 = c
 have yes : ∀ {x : Bool}, x = true → iD 1 = iD (enc x true) := fun h => by rw [h]; rfl
 have no : ∀ {x : Bool}, ¬ x = true → iD 0 = iD (enc x true) := fun h => by rw [Bool.eq_false_iff.2 h]; rfl
 unfold relB
 (repeat' (first | with_reducible refine ⟨fun _ => ?_, fun _ => ?_⟩ | fail))
 all_goals first
  | (refine yes ?_; simp [*]; done)
  | (refine no ?_; simp [*]; done)
  | (refine yes ?_; simp [*]; omega)
  | (refine no ?_; simp [*]; omega)
theorem c_rmaybe (nt : Bool) (s : Bool × Bool) : FnC Tryz.prog 44 [bD nt, iD (enc s.1 s.2)] (vD (truV (!(s.1 == nt)) s.2)) := by
 refine w44 nt (enc s.1 s.2) ?_
 refine ⟨fun h => ?_, fun h => ?_⟩
 · subst h
   have : (!(s.1 == true)) = !s.1 := by cases s.1 <;> rfl
   rw [this]
   exact ⟨_, c_rturned s.1 s.2, _, _, _, c_rOfE _ _, rfl⟩
 · have h : nt = false := by simpa using h
   subst h
   have : (!(s.1 == false)) = s.1 := by cases s.1 <;> rfl
   rw [this]
   exact ⟨_, _, _, c_rOfE _ _, rfl⟩
theorem tru_imp (v : V3) : (tru v).1 = true → (tru v).2.1 = true := by
 unfold tru
 split
 · intro h; cases h
 · intro h
   simp only [Bool.and_eq_true] at h
   exact h.1
theorem can_int {v : V3} (h : Can v) (h1 : v.1 = 1) : v.2.2 = [] := by
 unfold Can at h
 by_cases e : v.2.2 = []
 · exact e
 · exact absurd (.inr (.inr (.inr ⟨by omega, e⟩))) h
theorem c_rUn (op : List UInt8) (v : V3) (h : I64 v.2.1) (hc : Can v) : FnC Tryz.prog 38 [sD op, vD v] (tupE (unV op v)) := by
 refine w38 (bs op) v.1 v.2.1 (bs v.2.2) ?_
 simp only [mk_bs, bs_inj]
 unfold unV
 obtain ⟨e1, e2⟩ := trN_tru v
 refine ⟨fun h => ?_, fun h0 => ?_⟩
 · rw [if_pos (show op = wNot from h)]
   refine ⟨_, _, c_rTruth v, fun h1 => ?_, fun h1 => ?_⟩
   · rw [e1] at h1 ⊢
     have : (tru v).2.1 = false := by
      unfold tru at h1 ⊢
      split
      · rfl
      · rename_i hn; rw [if_neg hn] at h1; exact absurd rfl h1
     rw [this]; rfl
   · have h1 := Classical.not_not.1 h1
     rw [e1] at h1
     rw [e2 h1]
     refine ⟨_, c_rturned _ _, _, _, _, c_rOfE _ _, ?_⟩
     rw [h1]
     have : (if (!(tru v).1) = true then ((0 : Int) == 0) else false) = !(tru v).1 := by cases (tru v).1 <;> rfl
     rw [this]; rfl
 rw [if_neg (show ¬ op = wNot from h0)]
 refine ⟨fun h1 => ?_, fun h1 => ?_⟩
 · rw [if_neg h1.1, if_neg h1.2]; rfl
 by_cases hm : op = [45]
 · rw [if_pos hm]
   refine ⟨fun h2 => by rw [if_pos h2]; rfl, fun h2 => ⟨fun h3 => by rw [if_neg h2, if_pos h3]; rfl, fun h3 => ⟨fun h4 => absurd (h4.symm.trans hm) (by decide), fun _ => ?_⟩⟩⟩
   rw [if_neg h2, if_neg h3]
   exact ⟨_, _, _, _, c_r4Arith [45] (1, 0, []) v (i64_small 0 (by decide)) h, rfl⟩
 · have hp : op = [43] := by
    by_cases e : op = [43]
    · exact e
    · exact absurd ⟨hm, e⟩ h1
   rw [if_neg hm, if_pos hp]
   refine ⟨fun h2 => by rw [if_pos h2]; rfl, fun h2 => ⟨fun h3 => by rw [if_neg h2, if_pos h3]; rfl, fun h3 => ⟨fun _ => ?_, fun h4 => absurd hp h4⟩⟩⟩
   have h3 := Classical.not_not.1 h3
   rw [if_neg h2, if_neg (fun e => e h3), h3, can_int hc h3]; rfl
theorem both_of (a b : V3) (ea : (tru a).2.2 = 0) (eb : (tru b).2.2 = 0) : bothV a b false = (truV (andB ((tru a).1, (tru a).2.1) ((tru b).1, (tru b).2.1)).1 (andB ((tru a).1, (tru a).2.1) ((tru b).1, (tru b).2.1)).2, 0) ∧
 bothV a b true = (truV (orB ((tru a).1, (tru a).2.1) ((tru b).1, (tru b).2.1)).1 (orB ((tru a).1, (tru a).2.1) ((tru b).1, (tru b).2.1)).2, 0) := by
 have i1 := tru_imp a
 have i2 := tru_imp b
 unfold bothV
 simp only [ea, eb, ne_eq, not_true_eq_false, if_false]
 generalize (tru a).1 = a1 at *
 generalize (tru a).2.1 = a2 at *
 generalize (tru b).1 = b1 at *
 generalize (tru b).2.1 = b2 at *
 cases a1 <;> cases a2 <;> cases b1 <;> cases b2 <;> exact ⟨rfl, rfl⟩
theorem c_rBin (op : List UInt8) (a b : V3) (ha : I64 a.2.1) (hb : I64 b.2.1) (sa : Sz a.2.2) (sb : Sz b.2.2) : FnC Tryz.prog 39 [sD op, vD a, vD b] (tupE (binV op a b)) := by
 have cj := c_r4Join a b ha hb sa sb
 have ca := c_r4Arith op a b ha hb
 have ch := c_rheld op a b sa sb
 obtain ⟨p1, p2⟩ := trN_tru a
 obtain ⟨q1, q2⟩ := trN_tru b
 refine w39 (bs op) a.1 a.2.1 (bs a.2.2) b.1 b.2.1 (bs b.2.2) ?_
 simp only [mk_bs, bs_inj]
 unfold binV
 have bad1 : ∀ s, (trN a).2 ≠ 0 → bothV a b s = (nul, (trN a).2) := fun s h => by
  rw [p1] at h ⊢
  rw [bothV, if_pos h]
 have bad2 : ∀ s, ¬ (trN a).2 ≠ 0 → (trN b).2 ≠ 0 → bothV a b s = (nul, (trN b).2) := fun s h1 h => by
  rw [p1] at h1
  rw [q1] at h ⊢
  rw [bothV, if_neg h1, if_pos h]
 refine ⟨fun h => ?_, fun h0 => ?_⟩
 · rw [if_pos h]; exact ⟨_, _, _, _, cj, rfl⟩
 rw [if_neg h0]
 have yes : arOp op → ∃ x7 x8 x9 x10, FnC Tryz.prog 67 [sD op, vD a, vD b] (.tup [.agg [.v (.int .i64 x7), .v (.int .i64 x8), .v (.string x9)], .c (.v (.int .i64 x10))]) ∧ DV.tup [.agg [.v (.int .i64 x7), .v (.int .i64 x8), .v (.string x9)], .c (.v (.int .i64 x10))] = tupE (if arOp op then arithV op a b else if cmOp op then (heldV op a b, 0) else if op = wAnd then bothV a b false else if op = wOr then bothV a b true else (nul, 1)) := fun h => by
  rw [if_pos h]; exact ⟨_, _, _, _, ca, rfl⟩
 refine ⟨fun h => yes (.inl h), fun g1 => ⟨fun h => yes (.inr (.inl h)), fun g2 => ⟨fun h => yes (.inr (.inr (.inl h))), fun g3 => ⟨fun h => yes (.inr (.inr (.inr (.inl h)))), fun g4 => ⟨fun h => yes (.inr (.inr (.inr (.inr h)))), fun g5 => ?_⟩⟩⟩⟩⟩
 have na : ¬ arOp op := by rintro (h | h | h | h | h) <;> contradiction
 rw [if_neg na]
 have yes2 : cmOp op → ∃ x7 : Int, FnC Tryz.prog 46 [sD op, vD a, vD b] (.c (.v (.int .i64 x7))) ∧ ∃ x8 x9 x10, FnC Tryz.prog 65 [.c (.v (.int .i64 x7))] (.agg [.v (.int .i64 x8), .v (.int .i64 x9), .v (.string x10)]) ∧ DV.tup [.agg [.v (.int .i64 x8), .v (.int .i64 x9), .v (.string x10)], .c (.v (.int .i64 0))] = tupE (if cmOp op then (heldV op a b, 0) else if op = wAnd then bothV a b false else if op = wOr then bothV a b true else (nul, 1)) := fun h => by
  rw [if_pos h]; exact ⟨_, ch, _, _, _, c_rOfE _ _, rfl⟩
 refine ⟨fun h => yes2 (.inl h), fun g6 => ⟨fun h => yes2 (.inr (.inl h)), fun g7 => ⟨fun h => yes2 (.inr (.inr (.inl h))), fun g8 => ⟨fun h => yes2 (.inr (.inr (.inr (.inl h)))), fun g9 => ⟨fun h => yes2 (.inr (.inr (.inr (.inr (.inl h))))), fun g10 => ⟨fun h => yes2 (.inr (.inr (.inr (.inr (.inr h))))), fun g11 => ?_⟩⟩⟩⟩⟩⟩
 have nc : ¬ cmOp op := by rintro (h | h | h | h | h | h) <;> contradiction
 rw [if_neg nc]
 have wne : wOr ≠ wAnd := by decide
 refine ⟨fun h => ?_, fun h1 => ⟨fun h => ?_, fun h2 => ?_⟩⟩
 · rw [if_pos (show op = wAnd from h)]
   refine ⟨_, _, c_rTruth a, fun h1 => by rw [bad1 _ h1]; rfl, fun h1 => ⟨_, _, c_rTruth b, fun h2 => by rw [bad2 _ h1 h2]; rfl, fun h2 => ⟨fun _ => ?_, fun h3 => absurd h h3⟩⟩⟩
   have ea : (tru a).2.2 = 0 := by rw [← p1]; exact Classical.not_not.1 h1
   have eb : (tru b).2.2 = 0 := by rw [← q1]; exact Classical.not_not.1 h2
   rw [(both_of a b ea eb).1, p2 ea, q2 eb]
   exact ⟨_, c_rboth ((tru a).1, (tru a).2.1) ((tru b).1, (tru b).2.1), _, _, _, c_rOfE _ _, rfl⟩
 · have ho : op = wOr := h
   rw [if_neg (show ¬ op = wAnd from h1), if_pos ho]
   refine ⟨_, _, c_rTruth a, fun h1 => by rw [bad1 _ h1]; rfl, fun h1 => ⟨_, _, c_rTruth b, fun h2 => by rw [bad2 _ h1 h2]; rfl, fun h2 => ⟨fun h3 => absurd (ho.symm.trans h3) wne, fun _ => ?_⟩⟩⟩
   have ea : (tru a).2.2 = 0 := by rw [← p1]; exact Classical.not_not.1 h1
   have eb : (tru b).2.2 = 0 := by rw [← q1]; exact Classical.not_not.1 h2
   rw [(both_of a b ea eb).2, p2 ea, q2 eb]
   exact ⟨_, c_reither ((tru a).1, (tru a).2.1) ((tru b).1, (tru b).2.1), _, _, _, c_rOfE _ _, rfl⟩
 · rw [if_neg (show ¬ op = wAnd from h1), if_neg (show ¬ op = wOr from h2)]; rfl
theorem may_can {v : V3} (h : mayB v = true) : Can v := by
 unfold mayB at h
 unfold Can
 split at h
 · simp only [Bool.and_eq_true, decide_eq_true_eq, beq_iff_eq] at h
   rename_i h0
   rw [h.1, h.2, h0]; simp
 · split at h
   · simp only [decide_eq_true_eq] at h
     rename_i h0 h1
     rw [h, h1]; simp
   · split at h
     · simp only [Bool.and_eq_true, decide_eq_true_eq, beq_iff_eq] at h
       rename_i h0 h1 h2
       rw [h.1]
       rintro (e | e | e | e)
       · omega
       · omega
       · exact e.2 rfl
       · have := e.1; omega
     · cases h
end Go.Proofs.YtodjimecekaaeaaGreatDoor
namespace Go.Proofs.YtodjimecekaaeaaGreatDoor
open Go.RowKit Go.IntWalk
set_option linter.unusedSimpArgs false
set_option linter.unusedVariables false
theorem readL_rng' (l : List UInt8) : I64 (readL l).1 := by
 unfold readL
 repeat' split
 all_goals (constructor <;> simp only [] <;> omega)
def Gd (v : V3) : Prop := Can v ∧ I64 v.2.1 ∧ v.2.2.length ≤ 4096
theorem kinds_i64 {v : V3} (h1 : Can v) : I64 v.1 := by
 unfold Can at h1
 unfold I64
 have h2 : ¬ v.1 < 0 := fun e => h1 (.inl e)
 have h3 : ¬ 3 < v.1 := fun e => h1 (.inr (.inl e))
 omega
theorem Gd.sz {v : V3} (h : Gd v) : Sz v.2.2 := by have := h.2.2; unfold Sz; omega
theorem Gd.vs {v : V3} (h : Gd v) : Vs v := ⟨kinds_i64 h.1, h.2.1, by have := h.2.2; unfold Sm; omega⟩
theorem gd_nul : Gd nul := ⟨can_nul, i64_small _ (by decide), by decide⟩
theorem gd_num {n : Int} (h : I64 n) : Gd (1, n, []) := ⟨can_num n, h, by simp⟩
theorem gd_truV (i k : Bool) : Gd (truV i k) := by
 unfold truV
 split
 · split <;> exact gd_num (i64_small _ (by decide))
 · exact gd_nul
theorem gd_finP {r : V3 × Int} (h : Gd r.1) : Gd (finP r).1 := by
 unfold finP
 split
 · exact gd_nul
 · exact h
theorem gd_valFitR (s : Int) : Gd (fitR s).1 := by
 unfold fitR
 by_cases h : fit64 s = true
 · rw [if_pos h]
   unfold fit64 at h
   exact gd_num (by simpa [I64] using h)
 · rw [if_neg h]; exact gd_nul
theorem gd_arith (op : List UInt8) (a b : V3) (ha : I64 a.2.1) (hb : I64 b.2.1) : Gd (arithV op a b).1 := by
 unfold arithV
 split
 · split
   · exact gd_nul
   · split
     · exact gd_nul
     · split
       · exact gd_valFitR _
       · split
         · exact gd_valFitR _
         · split
           · exact gd_valFitR _
           · unfold divR
             split
             · exact gd_nul
             · rename_i hy
               split
               · refine gd_num ?_
                 unfold I64 at hb ⊢
                 have h1 : (Int.tmod a.2.1 b.2.1).natAbs < b.2.1.natAbs := by rw [Int.natAbs_tmod]; exact Nat.mod_lt _ (by omega)
                 omega
               · exact gd_valFitR _
 · exact gd_nul
theorem gd_text {s : List UInt8} (h : s.length ≤ 4096) : Gd (2, 0, s) := ⟨can_txt s, i64_small 0 (by decide), h⟩
theorem gd_join (a b : V3) : Gd (joinV2 a b).1 := by
 unfold joinV2
 split
 · exact gd_nul
 · split
   · exact gd_nul
   · split
     · exact gd_nul
     · refine gd_text ?_
       rw [List.length_append]; omega
theorem gd_held (op : List UInt8) (a b : V3) : Gd (heldV op a b) := gd_truV _ _
theorem gd_both (a b : V3) (s : Bool) : Gd (bothV a b s).1 := by
 unfold bothV
 split
 · exact gd_nul
 · split
   · exact gd_nul
   · split <;> exact gd_truV _ _
theorem gd_un (op : List UInt8) (v : V3) (h : I64 v.2.1) : Gd (unV op v).1 := by
 unfold unV
 split
 · exact gd_truV _ _
 · split
   · split
     · exact gd_nul
     · split
       · exact gd_nul
       · exact gd_arith _ _ _ (i64_small _ (by decide)) h
   · split
     · split
       · exact gd_nul
       · split
         · exact gd_nul
         · exact gd_num h
     · exact gd_nul
theorem gd_bin (op : List UInt8) (a b : V3) (ha : I64 a.2.1) (hb : I64 b.2.1) : Gd (binV op a b).1 := by
 unfold binV
 split
 · exact gd_join a b
 · split
   · exact gd_arith op a b ha hb
   · split
     · exact gd_held op a b
     · split
       · exact gd_both a b false
       · split
         · exact gd_both a b true
         · exact gd_nul
theorem gd_turn (v : V3) (n : Bool) : Gd (turnV v n) := gd_truV _ _
theorem gd_kind {k : Int} (h : k = 2 ∨ k = 3) {s : List UInt8} (hs : s.length ≤ 4096) : Gd (k, 0, s) := ⟨by rcases h with rfl | rfl <;> simp [Can], i64_small 0 (by decide), hs⟩
theorem gd_cast (v : V3) (ty : Int) (h : Gd v) : Gd (castV v ty).1 := by
 unfold castV
 split
 · exact gd_nul
 · rename_i h0
   split
   · exact h
   · split
     · unfold numberV
       split
       · exact h
       · split
         · split
           · exact gd_nul
           · exact gd_num (readL_rng' _)
         · exact gd_nul
     · refine gd_kind (by omega) ?_
       unfold textV
       split
       · have := numL_len v.2.1 h.2.1
         omega
       · exact h.2.2
theorem getD_gd {L : List V3} (h : ∀ v ∈ L, Gd v) (i : Nat) : Gd (L.getD i nul) := by
 by_cases hi : i < L.length
 · rw [List.getD_eq_getElem?_getD, List.getElem?_eq_getElem hi]
   exact h _ (List.getElem_mem _)
 · rw [List.getD_eq_getElem?_getD, List.getElem?_eq_none (by omega)]
   exact gd_nul
theorem first_gd : ∀ {L : List V3}, (∀ v ∈ L, Gd v) → Gd (firstV L)
 | [], _ => gd_nul
 | v :: L, h => by
  rw [firstV]
  split
  · exact first_gd fun u hu => h u (by simp [hu])
  · exact h v (by simp)
theorem num_body (f : List UInt8) (L : List V3) (h : ∀ v ∈ L, Gd v) : I64 (bodyV f L).1.2.1 := by
 have z : I64 0 := i64_small _ (by decide)
 have zt : ∀ s, I64 (txt s).1.2.1 := fun s => z
 have zn : I64 (nul : V3).2.1 := z
 have g := getD_gd h
 unfold bodyV
 split
 · exact zt _
 split
 · exact zt _
 split
 · unfold catR
   split
   · exact zn
   · exact z
 split
 · exact (first_gd h).2.1
 split
 · by_cases hc : cmpV (L.getD 0 nul) (L.getD 1 nul) 0 = 0
   · simp only [if_pos hc]; exact zn
   · simp only [if_neg hc]; exact (g 0).2.1
 split
 · exact zn
 unfold sevV
 have hr := rawL_sm (g 0).vs
 unfold Sm at hr
 split
 · unfold instrV
   split
   · have := findL_rng (rawL (L.getD 0 nul)) (rawL (L.getD 1 nul)) 0
     show I64 (_ + 1)
     unfold I64; omega
   · exact zn
 split
 · unfold blobR
   split
   · exact zn
   · exact zt _
 split
 · unfold substrV
   split
   · split
     · exact z
     · exact zn
   · split
     · exact z
     · exact zn
   · exact zn
 split
 · unfold likeV
   split
   · show I64 (if _ then _ else _)
     split <;> exact i64_small _ (by decide)
   · exact zn
 unfold singleV
 split
 · show I64 ((rawL (L.getD 0 nul)).length : Int)
   unfold I64; omega
 split
 · exact zt _
 split
 · have gi := (g 0).2.1
   unfold sizeV
   split
   · split
     · show I64 (if _ then _ else _)
       split
       · exact i64_small _ (by decide)
       · split <;> exact i64_small _ (by decide)
     · split
       · exact zn
       · show I64 (if (L.getD 0 nul).2.1 < 0 then -(L.getD 0 nul).2.1 else (L.getD 0 nul).2.1)
         unfold I64 at gi ⊢
         split <;> omega
   · exact zn
 · unfold letV
   split
   · exact zn
   · exact z
theorem gd_res (op : List UInt8) (L : List V3) (h : ∀ v ∈ L, Gd v) : Gd (resC op L).1 := by
 have h1 := check_can (res_ok op L)
 refine ⟨h1.1, ?_, by omega⟩
 unfold resC
 split
 · split
   · unfold fitP
     split
     · exact i64_small 0 (by decide)
     · split
       · exact num_body _ _ h
       · exact i64_small 0 (by decide)
   · exact i64_small 0 (by decide)
 · exact i64_small 0 (by decide)
noncomputable def elikeV (nt : Bool) (a b : V3) : V3 × Int :=
 if a.1 = 0 ∨ b.1 = 0 then (nul, 0) else if ¬ a.1 = 2 ∨ ¬ b.1 = 2 then (nul, 11) else (truV (!(likB a.2.2 b.2.2 == nt)) true, 0)
def wInt : List UInt8 := [105, 110, 116]
def wText : List UInt8 := [116, 101, 120, 116]
def wBlob : List UInt8 := [98, 108, 111, 98]
def ecastV (op : List UInt8) (v : V3) : V3 × Int :=
 if op = wInt then castV v 1 else if op = wBlob then castV v 3 else if op = wText then castV v 2 else (nul, 1)
noncomputable def reckV (k : Int) (op : List UInt8) (v : V3) (sl : Int) (nt : Bool) (L row : List V3) : V3 × Int :=
 if k = 1 then (v, 0)
 else if k = 2 then (if sl < 0 ∨ (row.length : Int) ≤ sl then (nul, 1) else (row.getD sl.toNat nul, 0))
 else if k = 3 then unV op (L.getD 0 nul)
 else if k = 4 then binV op (L.getD 0 nul) (L.getD 1 nul)
 else if k = 5 then (truV (!((cmpV (L.getD 0 nul) (L.getD 1 nul) 0 == 0) == nt)) true, 0)
 else if k = 6 then (turnV (inV (L.getD 0 nul) L.tail true) nt, 0)
 else if k = 7 then (turnV (bothV (heldV [62, 61] (L.getD 0 nul) (L.getD 1 nul)) (heldV [60, 61] (L.getD 0 nul) (L.getD 2 nul)) false).1 nt, 0)
 else if k = 8 then elikeV nt (L.getD 0 nul) (L.getD 1 nul)
 else if k = 10 then resC op L
 else ecastV op (L.getD 0 nul)
def caseV (base : Option V3) (c : V3 × Int) : Bool × Int :=
 if c.2 ≠ 0 then (false, c.2) else match base with
  | some b => ((tru (heldV [61] b c.1)).1, (tru (heldV [61] b c.1)).2.2)
  | none => ((tru c.1).1, (tru c.1).2.2)
def pairsV (base : Option V3) : List (V3 × Int) → V3 × Int
 | [] => (nul, 0)
 | [x] => x
 | c :: r :: Y => if (caseV base c).2 ≠ 0 then (nul, (caseV base c).2) else if (caseV base c).1 = true then r else pairsV base Y
def casV (ds : Bool) (X : List (V3 × Int)) : V3 × Int :=
 if ds = true then (match X with
  | [] => (nul, 0)
  | b :: Y => if b.2 ≠ 0 then (nul, b.2) else pairsV (some b.1) Y)
 else pairsV none X
noncomputable def topV (k : Int) (op : List UInt8) (v : V3) (sl : Int) (nt ds : Bool) (X : List (V3 × Int)) (row : List V3) : V3 × Int :=
 if k = 9 then (if mayV k ds X.length ≠ 0 then (nul, mayV k ds X.length) else casV ds X) else nodeV k ds X.length X (reckV k op v sl nt (X.map (·.1)) row)
mutual
noncomputable def evX (row : List V3) : Xp → V3 × Int
 | .mk k op v tb nm sl nt ds args => topV k op v sl nt ds (evXs row args) row
noncomputable def evXs (row : List V3) : List Xp → List (V3 × Int)
 | [] => []
 | e :: r => evX row e :: evXs row r
end
theorem evXs_len (row : List V3) : ∀ l : List Xp, (evXs row l).length = l.length
 | [] => rfl
 | e :: r => by simp [evXs, evXs_len row r]
theorem evXs_get (row : List V3) : ∀ (l : List Xp) (i : Nat) (h : i < l.length), (evXs row l).getD i (nul, 0) = evX row l[i]
 | [], i, h => by simp at h
 | e :: r, 0, h => rfl
 | e :: r, i + 1, h => by
  have := evXs_get row r i (by simpa using h)
  simpa [evXs] using this
mutual
def Fair : Xp → Prop
 | .mk k op v tb nm sl nt ds args => Gd v ∧ op.length ≤ 1000 ∧ args.length ≤ 100000 ∧ Fairs args
def Fairs : List Xp → Prop
 | [] => True
 | e :: r => Fair e ∧ Fairs r
end
theorem Fairs.at : ∀ {l : List Xp}, Fairs l → ∀ e ∈ l, Fair e
 | [], _, e, h => by cases h
 | a :: l, hf, e, h => by
  simp only [Fairs] at hf
  rcases List.mem_cons.1 h with rfl | h
  · exact hf.1
  · exact Fairs.at hf.2 e h
theorem gd_reck (k : Int) (op : List UInt8) (v : V3) (sl : Int) (nt : Bool) (L row : List V3) (hv : Gd v) (hL : ∀ a ∈ L, Gd a) (hr : ∀ a ∈ row, Gd a) : Gd (reckV k op v sl nt L row).1 := by
 have g := getD_gd hL
 unfold reckV
 split
 · exact hv
 split
 · split
   · exact gd_nul
   · exact getD_gd hr _
 split
 · exact gd_un op _ (g 0).2.1
 split
 · exact gd_bin op _ _ (g 0).2.1 (g 1).2.1
 split
 · exact gd_truV _ _
 split
 · exact gd_turn _ _
 split
 · exact gd_turn _ _
 split
 · unfold elikeV
   split
   · exact gd_nul
   · split
     · exact gd_nul
     · exact gd_truV _ _
 split
 · exact gd_res op L hL
 · unfold ecastV
   split
   · exact gd_cast _ _ (g 0)
   · split
     · exact gd_cast _ _ (g 0)
     · split
       · exact gd_cast _ _ (g 0)
       · exact gd_nul
theorem gd_pairs (base : Option V3) : ∀ (n : Nat) (X : List (V3 × Int)), X.length ≤ n → (∀ x ∈ X, Gd x.1) → Gd (pairsV base X).1
 | _, [], _, _ => gd_nul
 | _, [x], _, h => h x (by simp)
 | 0, _ :: _ :: _, hn, _ => by simp at hn
 | n + 1, c :: r :: Y, hn, h => by
  rw [pairsV]
  split
  · exact gd_nul
  · split
    · exact h r (by simp)
    · exact gd_pairs base n Y (by simp at hn; omega) fun x hx => h x (by simp [hx])
theorem gd_cas (ds : Bool) (X : List (V3 × Int)) (h : ∀ x ∈ X, Gd x.1) : Gd (casV ds X).1 := by
 unfold casV
 split
 · split
   · exact gd_nul
   · rename_i b Y
     split
     · exact gd_nul
     · exact gd_pairs _ _ Y (Nat.le_refl _) fun x hx => h x (by simp [hx])
 · exact gd_pairs _ _ X (Nat.le_refl _) h
theorem gd_top (k : Int) (op : List UInt8) (v : V3) (sl : Int) (nt ds : Bool) (X : List (V3 × Int)) (row : List V3) (hv : Gd v) (hX : ∀ x ∈ X, Gd x.1) (hr : ∀ a ∈ row, Gd a) : Gd (topV k op v sl nt ds X row).1 := by
 unfold topV
 split
 · split
   · exact gd_nul
   · exact gd_cas ds X hX
 · unfold nodeV
   split
   · exact gd_nul
   · split
     · exact gd_nul
     · refine gd_finP (gd_reck k op v sl nt _ row hv (fun a ha => ?_) hr)
       obtain ⟨x, hx, rfl⟩ := List.mem_map.1 ha
       exact hX x hx
mutual
theorem gd_ev (row : List V3) (hr : ∀ a ∈ row, Gd a) : ∀ e : Xp, Fair e → Gd (evX row e).1
 | .mk k op v tb nm sl nt ds args, h => by
  simp only [Fair] at h
  rw [evX]
  exact gd_top k op v sl nt ds _ row h.1 (gd_evs row hr args h.2.2.2) hr
theorem gd_evs (row : List V3) (hr : ∀ a ∈ row, Gd a) : ∀ l : List Xp, Fairs l → ∀ x ∈ evXs row l, Gd x.1
 | [], _, x, h => by cases h
 | e :: l, hf, x, h => by
  simp only [Fairs] at hf
  rw [evXs] at h
  rcases List.mem_cons.1 h with rfl | h
  · exact gd_ev row hr e hf.1
  · exact gd_evs row hr l hf.2 x h
end
end Go.Proofs.YtodjimecekaaeaaGreatDoor
namespace Go.Proofs.YtodjimecekaaeaaGreatDoor
open Go.RowKit Go.IntWalk
set_option linter.unusedSimpArgs false
set_option linter.unusedVariables false
theorem xcs_drop : ∀ (l : List Xp) (n : Nat), (xcs l).drop n = xcs (l.drop n)
 | [], n => by simp [xcs]
 | e :: l, 0 => rfl
 | e :: l, n + 1 => by simp [xcs, xcs_drop l n]
theorem c_elike (k : Int) (op : List UInt8) (v : V3) (tb nm : List UInt8) (sl : Int) (nt ds : Bool) (args : List Xp) (a b : V3) (ha : Vs a) (hb : Vs b) : FnC Tryz.prog 94 [xD (.mk k op v tb nm sl nt ds args), .c (.vs (vc [a, b]))] (tupE (elikeV nt a b)) := by
 unfold xD
 simp only [Xp.cells]
 refine w94 k (bs op) v.1 v.2.1 (bs v.2.2) (bs tb) (bs nm) sl nt ds (xcs args) (vc [a, b]) ?_
 rw [vc_0 _ (0 : Int) (by omega) (by simp), vc_0 _ (1 : Int) (by omega) (by simp), vc_2 _ (0 : Int) (by omega) (by simp), vc_2 _ (1 : Int) (by omega) (by simp)]
 unfold elikeV
 refine ⟨by simp [vc_len], vc_sz _, vc_k0 _ _ (by omega) (by simp), fun _ => by simp [vc_len], fun _ => vc_sz _, fun _ => vc_k0 _ _ (by omega) (by simp), fun h => ?_, fun h => ?_⟩
 · rw [if_pos (show a.1 = 0 ∨ b.1 = 0 from h)]; rfl
 rw [if_neg (show ¬ (a.1 = 0 ∨ b.1 = 0) from h)]
 refine ⟨by simp [vc_len], vc_sz _, vc_k0 _ _ (by omega) (by simp), fun _ => by simp [vc_len], fun _ => vc_sz _, fun _ => vc_k0 _ _ (by omega) (by simp), fun h2 => ?_, fun h2 => ?_⟩
 · rw [if_pos (show ¬ a.1 = 2 ∨ ¬ b.1 = 2 from h2)]; rfl
 rw [if_neg (show ¬ (¬ a.1 = 2 ∨ ¬ b.1 = 2) from h2)]
 exact ⟨by simp [vc_len], vc_sz _, vc_k2 _ _ (by omega) (by simp), by simp [vc_len], vc_sz _, vc_k2 _ _ (by omega) (by simp), _, c_Like a.2.2 b.2.2 ha.2.2 hb.2.2, _, _, _, c_vBool _, rfl⟩
theorem c_ecast (op : List UInt8) (v : V3) (h : I64 v.2.1) (hs : Sz v.2.2) : FnC Tryz.prog 96 [sD op, vD v] (tupE (ecastV op v)) := by
 refine w96 (bs op) v.1 v.2.1 (bs v.2.2) ?_
 simp only [mk_bs, bs_inj]
 unfold ecastV
 refine ⟨fun h1 => ?_, fun h1 => ⟨fun h2 => ?_, fun h2 => ⟨fun h3 => ?_, fun h3 => ?_⟩⟩⟩
 · rw [if_pos (show op = wInt from h1)]; exact ⟨_, _, _, _, c_vCast v 1 h hs, rfl⟩
 · rw [if_neg (show ¬ op = wInt from h1), if_pos (show op = wBlob from h2)]; exact ⟨_, _, _, _, c_vCast v 3 h hs, rfl⟩
 · rw [if_neg (show ¬ op = wInt from h1), if_neg (show ¬ op = wBlob from h2), if_pos (show op = wText from h3)]; exact ⟨_, _, _, _, c_vCast v 2 h hs, rfl⟩
 · rw [if_neg (show ¬ op = wInt from h1), if_neg (show ¬ op = wBlob from h2), if_neg (show ¬ op = wText from h3)]; rfl
section
variable (row : List V3)
theorem c_efits_some {e : Xp} {c : V3 × Int} (h : EvR row e c) (b : V3) (hb : Sz b.2.2 ∧ Sz c.1.2.2) : FnC Tryz.prog 86 [xD e, .c (.vs (vc row)), .c (.vs (vc [b]))] (.tup [bD (caseV (some b) c).1, iD (caseV (some b) c).2]) := by
 obtain ⟨k, op, v, tb, nm, sl, nt, ds, args⟩ := e
 unfold EvR xD at h
 unfold xD
 simp only [Xp.cells] at h ⊢
 refine w86 k (bs op) v.1 v.2.1 (bs v.2.2) (bs tb) (bs nm) sl nt ds (xcs args) (vc row) (vc [b]) ⟨_, _, _, _, h, ?_⟩
 unfold caseV
 refine ⟨fun h1 => by rw [if_pos h1] <;> rfl, fun h1 => ?_⟩
 rw [if_neg h1]
 refine ⟨fun _ => ?_, fun h2 => absurd (by simp [vc_len]) h2⟩
 rw [vc_vD _ (0 : Int) (by omega) (by simp)]
 exact ⟨by simp [vc_len], vc_sz _, vc_k _ _ (by omega) (by simp), _, _, _, c_held [61] b c.1 hb.1 hb.2, _, _, _, c_truth _, rfl⟩
theorem c_efits_none {e : Xp} {c : V3 × Int} (h : EvR row e c) : FnC Tryz.prog 86 [xD e, .c (.vs (vc row)), .c (.vs (vc []))] (.tup [bD (caseV none c).1, iD (caseV none c).2]) := by
 obtain ⟨k, op, v, tb, nm, sl, nt, ds, args⟩ := e
 unfold EvR xD at h
 unfold xD
 simp only [Xp.cells] at h ⊢
 refine w86 k (bs op) v.1 v.2.1 (bs v.2.2) (bs tb) (bs nm) sl nt ds (xcs args) (vc row) (vc []) ⟨_, _, _, _, h, ?_⟩
 unfold caseV
 refine ⟨fun h1 => by rw [if_pos h1] <;> rfl, fun h1 => ?_⟩
 rw [if_neg h1]
 exact ⟨fun h2 => absurd h2 (by simp [vc_len]), fun _ => ⟨_, _, _, c_truth _, rfl⟩⟩
theorem fits_nil {e : Xp} {row : List V3} {r : DV} (h : FnC Tryz.prog 86 [xD e, .c (.vs (vc row)), .c (.vs (vc []))] r) : FnC Tryz.prog 86 [xD e, .c (.vs (vc row)), nilD] r :=
 fnC_arg h fun w X vs hv => by
  match vs, hv with
  | [a, b, c], hv =>
   simp only [DVRs] at hv ⊢
   exact ⟨hv.1, hv.2.1, nil_row hv.2.2.1, trivial⟩
  | [], hv => simp [DVRs] at hv
  | [_], hv => simp [DVRs] at hv
  | [_, _], hv => simp [DVRs] at hv
  | _ :: _ :: _ :: _ :: _, hv => simp [DVRs] at hv
theorem c_cases (k : Int) (op : List UInt8) (v : V3) (tb nm : List UInt8) (sl : Int) (nt ds : Bool) (args : List Xp) (X : List (V3 × Int)) (hX : X.length = args.length) (hG : ∀ x ∈ X, Sz x.1.2.2) (hm : ds = true → 1 ≤ args.length)
 (hA : ∀ i (h : i < args.length), EvR row args[i] (X.getD i (nul, 0))) : FnC Tryz.prog 59 [xD (.mk k op v tb nm sl nt ds args), .c (.vs (vc row))] (tupE (casV ds X)) := by
 unfold xD
 simp only [Xp.cells]
 refine w59 k (bs op) v.1 v.2.1 (bs v.2.2) (bs tb) (bs nm) sl nt ds (xcs args) (vc row) ?_
 unfold casV
 refine ⟨fun h => ?_, fun h => ?_⟩
 · rw [if_pos h]
   match args, X, hX, hG, hm h, hA with
   | e0 :: args, b0 :: X0, hX, hG, _, hA =>
   have h0 : EvR row e0 b0 := hA 0 (by simp)
   have hX0 : X0.length = args.length := by simpa using hX
   have hC0 : ∀ i (h : i < args.length), EvR row args[i] (X0.getD i (nul, 0)) := fun i hi => hA (i + 1) (by simpa using hi)
   have hls : ((e0 :: args).length : Int) = args.length + 1 := by simp
   rw [xs_D _ (0 : Int) (by omega) (by omega), xcs_len]
   refine ⟨by omega, xcs_sz _, xs_k _ _ (by omega) (by omega), _, _, _, _, h0, fun h1 => by simp only [if_pos h1] <;> rfl, fun h1 => ?_⟩
   simp only [if_neg h1]
   intro x16 h16
   obtain rfl : x16 = vc [b0.1] := h16
   refine ⟨by omega, xcs_sz _, ?_⟩
   have hd : (xcs (e0 :: args)).drop (1 : Int).toNat = xcs args := by rw [xcs_drop]; rfl
   rw [hd]
   have gX0 : ∀ x ∈ X0, Sz x.1.2.2 := fun x hx => hG x (by simp [hx])
   have gb : Sz b0.1.2.2 := hG b0 (by simp)
   refine ⟨fun rows m => ∃ (l : List Xp) (Y : List (V3 × Int)), rows = xcs l ∧ Y.length = l.length ∧ (∀ i (h : i < l.length), EvR row l[i] (Y.getD i (nul, 0))) ∧ (∀ y ∈ Y, Sz y.1.2.2) ∧ pairsV (some b0.1) X0 = pairsV (some b0.1) Y ∧ m = l.length, ⟨_, _, X0, rfl, hX0, hC0, gX0, rfl, rfl⟩, ?_⟩
   rintro m rows ⟨l, Y, rfl, hY, hC, hS, hP, rfl⟩
   rw [xcs_len]
   refine ⟨fun hi => ?_, fun hi => ?_⟩
   · match l, Y, hY, hC, hS, hP, hi with
     | c :: r :: l', cx :: rx :: Y', hY, hC, hS, hP, hi =>
      have hc : EvR row c cx := hC 0 (by simp)
      have hrr : EvR row r rx := hC 1 (by simp)
      have hd : (xcs (c :: r :: l')).drop (2 : Int).toNat = xcs l' := by rw [xcs_drop]; rfl
      have hls : ((c :: r :: l').length : Int) = l'.length + 2 := by simp only [List.length_cons]; omega
      rw [xs_D _ (0 : Int) (by omega) (by omega), xs_D _ (1 : Int) (by omega) (by omega), hd, hP, pairsV]
      refine ⟨by omega, xcs_sz _, xs_k _ _ (by omega) (by omega), _, _, c_efits_some row hc b0.1 ⟨gb, hS cx (by simp)⟩, fun h => by rw [if_pos h] <;> rfl, fun h => ⟨fun h2 => ?_, fun h2 => ?_⟩⟩
      · rw [if_neg h, if_pos h2]
        exact ⟨by omega, xcs_sz _, xs_k _ _ (by omega) (by omega), _, _, _, _, hrr, rfl⟩
      · rw [if_neg h, if_neg h2]
        refine ⟨by omega, xcs_sz _, l'.length, by simp only [List.length_cons]; omega, l', Y', rfl, by simpa using hY, fun i hi => ?_, fun y hy => hS y (by simp [hy]), rfl, rfl⟩
        exact hC (i + 2) (by simpa using hi)
     | [], _, _, _, _, _, hi => simp at hi
     | [_], _, _, _, _, _, hi => simp at hi
     | _ :: _ :: _, [], hY, _, _, _, _ => simp at hY
     | _ :: _ :: _, [_], hY, _, _, _, _ => simp at hY
   · refine ⟨fun h1 => ?_, fun h1 => ?_⟩
     · match l, Y, hY, hC, hP, h1 with
       | [c], [cx], _, hC, hP, _ =>
        have hc : EvR row c cx := hC 0 (by simp)
        rw [xs_D _ (0 : Int) (by omega) (by simp), hP, pairsV]
        exact ⟨by simp, xcs_sz _, xs_k _ _ (by omega) (by simp), _, _, _, _, hc, rfl⟩
       | [], _, _, _, _, h1 => simp at h1
       | _ :: _ :: _, _, _, _, _, h1 => simp at h1; omega
       | [_], [], hY, _, _, _ => simp at hY
       | [_], _ :: _ :: _, hY, _, _, _ => simp at hY
     · match l, Y, hY, hP, hi, h1 with
       | [], [], _, hP, _, _ => rw [hP]; rfl
       | [], _ :: _, hY, _, _, _ => simp at hY
       | [_], _, _, _, _, h1 => simp at h1
       | _ :: _ :: _, _, _, _, hi, _ => simp at hi; omega
 · rw [if_neg h]
   refine ⟨fun rows m => ∃ (l : List Xp) (Y : List (V3 × Int)), rows = xcs l ∧ Y.length = l.length ∧ (∀ i (h : i < l.length), EvR row l[i] (Y.getD i (nul, 0))) ∧ (∀ y ∈ Y, Sz y.1.2.2) ∧ pairsV none X = pairsV none Y ∧ m = l.length, ⟨_, _, X, rfl, hX, hA, hG, rfl, rfl⟩, ?_⟩
   rintro m rows ⟨l, Y, rfl, hY, hC, hS, hP, rfl⟩
   rw [xcs_len]
   refine ⟨fun hi => ?_, fun hi => ?_⟩
   · match l, Y, hY, hC, hS, hP, hi with
     | c :: r :: l', cx :: rx :: Y', hY, hC, hS, hP, hi =>
      have hc : EvR row c cx := hC 0 (by simp)
      have hrr : EvR row r rx := hC 1 (by simp)
      have hd : (xcs (c :: r :: l')).drop (2 : Int).toNat = xcs l' := by rw [xcs_drop]; rfl
      have hls : ((c :: r :: l').length : Int) = l'.length + 2 := by simp only [List.length_cons]; omega
      rw [xs_D _ (0 : Int) (by omega) (by omega), xs_D _ (1 : Int) (by omega) (by omega), hd, hP, pairsV]
      refine ⟨by omega, xcs_sz _, xs_k _ _ (by omega) (by omega), _, _, fits_nil (c_efits_none row hc), fun h => by rw [if_pos h] <;> rfl, fun h => ⟨fun h2 => ?_, fun h2 => ?_⟩⟩
      · rw [if_neg h, if_pos h2]
        exact ⟨by omega, xcs_sz _, xs_k _ _ (by omega) (by omega), _, _, _, _, hrr, rfl⟩
      · rw [if_neg h, if_neg h2]
        refine ⟨by omega, xcs_sz _, l'.length, by simp only [List.length_cons]; omega, l', Y', rfl, by simpa using hY, fun i hi => ?_, fun y hy => hS y (by simp [hy]), rfl, rfl⟩
        exact hC (i + 2) (by simpa using hi)
     | [], _, _, _, _, _, hi => simp at hi
     | [_], _, _, _, _, _, hi => simp at hi
     | _ :: _ :: _, [], hY, _, _, _, _ => simp at hY
     | _ :: _ :: _, [_], hY, _, _, _, _ => simp at hY
   · refine ⟨fun h1 => ?_, fun h1 => ?_⟩
     · match l, Y, hY, hC, hP, h1 with
       | [c], [cx], _, hC, hP, _ =>
        have hc : EvR row c cx := hC 0 (by simp)
        rw [xs_D _ (0 : Int) (by omega) (by simp), hP, pairsV]
        exact ⟨by simp, xcs_sz _, xs_k _ _ (by omega) (by simp), _, _, _, _, hc, rfl⟩
       | [], _, _, _, _, h1 => simp at h1
       | _ :: _ :: _, _, _, _, _, h1 => simp at h1; omega
       | [_], [], hY, _, _, _ => simp at hY
       | [_], _ :: _ :: _, hY, _, _, _ => simp at hY
     · match l, Y, hY, hP, hi, h1 with
       | [], [], _, hP, _, _ => rw [hP]; rfl
       | [], _ :: _, hY, _, _, _ => simp at hY
       | [_], _, _, _, _, h1 => simp at h1
       | _ :: _ :: _, _, _, _, hi, _ => simp at hi; omega
end
section
variable (k : Int) (op : List UInt8) (v : V3) (tb nm : List UInt8) (sl : Int) (nt ds : Bool) (args : List Xp) (row : List V3)
theorem reck_col : FnC Tryz.prog 60 [xD (.mk 2 op v tb nm sl nt ds args), .c (.vs (vc [])), .c (.vs (vc row))] (tupE (if sl < 0 ∨ (row.length : Int) ≤ sl then (nul, 1) else (row.getD sl.toNat nul, 0))) := by
 unfold xD
 simp only [Xp.cells]
 refine w60 2 (bs op) v.1 v.2.1 (bs v.2.2) (bs tb) (bs nm) sl nt ds (xcs args) (vc []) (vc row) ?_
 rw [vc_len row]
 refine ⟨fun h => absurd h (by decide), fun _ => ⟨fun _ => ⟨fun h => by rw [if_pos h]; rfl, fun h => ?_⟩, fun h => absurd rfl h⟩⟩
 rw [if_neg h, vc_vD _ _ (by omega) (by omega)]
 exact ⟨by omega, vc_sz _, vc_k _ _ (by omega) (by omega), rfl⟩
theorem reck_like (a b : V3) (ha : Vs a) (hb : Vs b) : FnC Tryz.prog 60 [xD (.mk 8 op v tb nm sl nt ds args), .c (.vs (vc [a, b])), .c (.vs (vc row))] (tupE (elikeV nt a b)) := by
 have hc := c_elike 8 op v tb nm sl nt ds args a b ha hb
 unfold xD at hc ⊢
 simp only [Xp.cells] at hc ⊢
 refine w60 8 (bs op) v.1 v.2.1 (bs v.2.2) (bs tb) (bs nm) sl nt ds (xcs args) (vc [a, b]) (vc row) ?_
 iterate 7 refine ⟨fun h => absurd h (by decide), fun _ => ?_⟩
 exact ⟨fun _ => ⟨_, _, _, _, hc, rfl⟩, fun h => absurd rfl h⟩
theorem reck_fn (L : List V3) (hop : Sm op) (hl : L.length ≤ 1000000) (hL : ∀ a ∈ L, Vs a) : FnC Tryz.prog 60 [xD (.mk 10 op v tb nm sl nt ds args), .c (.vs (vc L)), .c (.vs (vc row))] (tupE (resC op L)) := by
 have hc := c_CallV op hop L hl hL
 unfold xD
 simp only [Xp.cells]
 refine w60 10 (bs op) v.1 v.2.1 (bs v.2.2) (bs tb) (bs nm) sl nt ds (xcs args) (vc L) (vc row) ?_
 iterate 8 refine ⟨fun h => absurd h (by decide), fun _ => ?_⟩
 exact ⟨fun _ => ⟨_, _, _, _, hc, rfl⟩, fun h => absurd rfl h⟩
theorem reck_cast (a : V3) (ha : I64 a.2.1) (sa : Sz a.2.2) : FnC Tryz.prog 60 [xD (.mk 12 op v tb nm sl nt ds args), .c (.vs (vc [a])), .c (.vs (vc row))] (tupE (ecastV op a)) := by
 unfold xD
 simp only [Xp.cells]
 refine w60 12 (bs op) v.1 v.2.1 (bs v.2.2) (bs tb) (bs nm) sl nt ds (xcs args) (vc [a]) (vc row) ?_
 iterate 9 refine ⟨fun h => absurd h (by decide), fun _ => ?_⟩
 rw [vc_vD _ (0 : Int) (by omega) (by simp)]
 exact ⟨by simp [vc_len], vc_sz _, vc_k _ _ (by omega) (by simp), _, _, _, _, c_ecast op a ha sa, rfl⟩
theorem may_kinds {n : Nat} (h : mayV k ds n = 0) : okN k ds n := by
 unfold mayV at h
 split at h
 · cases h
 · split at h
   · assumption
   · cases h
theorem len1 {L : List V3} (h : L.length = 1) : ∃ a, L = [a] := by
 match L, h with
 | [a], _ => exact ⟨a, rfl⟩
theorem len2 {L : List V3} (h : L.length = 2) : ∃ a b, L = [a, b] := by
 match L, h with
 | [a, b], _ => exact ⟨a, b, rfl⟩
theorem len3 {L : List V3} (h : L.length = 3) : ∃ a b c, L = [a, b, c] := by
 match L, h with
 | [a, b, c], _ => exact ⟨a, b, c, rfl⟩
theorem c_reck (L : List V3) (hk : k ≠ 9) (hm : mayV k ds L.length = 0) (hL : ∀ a ∈ L, Gd a) (hop : op.length ≤ 1000) (hl : L.length ≤ 100000) : FnC Tryz.prog 60 [xD (.mk k op v tb nm sl nt ds args), .c (.vs (vc L)), .c (.vs (vc row))] (tupE (reckV k op v sl nt L row)) := by
 rcases may_kinds k ds hm with ⟨h1 | h1, h2⟩ | ⟨h1 | h1, h2⟩ | ⟨h1 | h1 | h1, h2⟩ | ⟨h1, h2⟩ | ⟨h1, h2⟩ | ⟨h1, h2⟩ | h1
 all_goals subst h1
 · rw [List.length_eq_zero_iff.1 h2]; exact reck_val op v tb nm sl nt ds args row
 · rw [List.length_eq_zero_iff.1 h2]; exact reck_col op v tb nm sl nt ds args row
 · obtain ⟨a, rfl⟩ := len1 h2; exact reck_un op v tb nm sl nt ds args row a (hL a (by simp)).2.1
 · obtain ⟨a, rfl⟩ := len1 h2; exact reck_cast op v tb nm sl nt ds args row a (hL a (by simp)).2.1 (hL a (by simp)).sz
 · obtain ⟨a, b, rfl⟩ := len2 h2; exact reck_bin op v tb nm sl nt ds args row a b (hL a (by simp)).2.1 (hL b (by simp)).2.1 (hL a (by simp)).sz (hL b (by simp)).sz
 · obtain ⟨a, b, rfl⟩ := len2 h2; exact reck_is op v tb nm sl nt ds args row a b (hL a (by simp)).sz (hL b (by simp)).sz
 · obtain ⟨a, b, rfl⟩ := len2 h2; exact reck_like op v tb nm sl nt ds args row a b (hL a (by simp)).vs (hL b (by simp)).vs
 · match L, h2, hL, hl with
   | a :: R, _, hL, hl => exact reck_in op v tb nm sl nt ds args row a R (hL a (by simp)).sz (fun x hx => (hL x (by simp [hx])).sz) (by simp at hl; omega)
 · obtain ⟨a, b, c, rfl⟩ := len3 h2; exact reck_between op v tb nm sl nt ds args row a b c (hL a (by simp)).sz (hL b (by simp)).sz (hL c (by simp)).sz
 · exact absurd rfl hk
 · exact reck_fn op v tb nm sl nt ds args row L (by unfold Sm; omega) (by omega) fun a ha => (hL a ha).vs
theorem c_top (X : List (V3 × Int)) (hX : X.length = args.length) (hv : Gd v) (hop : op.length ≤ 1000) (hl : args.length ≤ 100000) (hG : ∀ x ∈ X, Gd x.1)
 (hA : ∀ i (h : i < args.length), EvR row args[i] (X.getD i (nul, 0))) : EvR row (.mk k op v tb nm sl nt ds args) (topV k op v sl nt ds X row) := by
 unfold topV
 rw [hX]
 by_cases hk : k = 9
 · subst hk
   rw [if_pos rfl]
   have hm := c_emay 9 op v tb nm sl nt ds args
   have hc := fun h => c_cases row 9 op v tb nm sl nt ds args X hX (fun x hx => (hG x hx).sz) h hA
   unfold EvR
   unfold xD at hm hc ⊢
   simp only [Xp.cells] at hm hc ⊢
   refine w31 9 (bs op) v.1 v.2.1 (bs v.2.2) (bs tb) (bs nm) sl nt ds (xcs args) (vc row) ⟨_, hm, fun h => by rw [if_pos h]; rfl, fun h => ?_⟩
   rw [if_neg h]
   refine ⟨fun _ => ⟨_, _, _, _, hc fun hd => ?_, rfl⟩, fun h => absurd rfl h⟩
   have := may_kinds 9 ds (Classical.not_not.1 h)
   unfold okN at this
   rw [hd] at this
   simp at this
   omega
 · rw [if_neg hk]
   have hn := c_Eval_node k op v tb nm sl nt ds args row hk (by omega) X hX (fun _ => hA) (reckV k op v sl nt (X.map (·.1)) row) (fun h1 h2 => c_reck k op v tb nm sl nt ds args row (X.map (·.1)) hk (by rw [List.length_map, hX]; exact h1) (fun a ha => by
    obtain ⟨x, hx, rfl⟩ := List.mem_map.1 ha
    exact hG x hx) hop (by rw [List.length_map, hX]; exact hl))
   exact hn
end
mutual
theorem c_EvX (row : List V3) (hr : ∀ a ∈ row, Gd a) : ∀ e : Xp, Fair e → EvR row e (evX row e)
 | .mk k op v tb nm sl nt ds args, h => by
  simp only [Fair] at h
  rw [evX]
  exact c_top k op v tb nm sl nt ds args row (evXs row args) (evXs_len row args) h.1 h.2.1 h.2.2.1 (gd_evs row hr args h.2.2.2) (c_EvXs row hr args h.2.2.2)
theorem c_EvXs (row : List V3) (hr : ∀ a ∈ row, Gd a) : ∀ l : List Xp, Fairs l → ∀ i (h : i < l.length), EvR row l[i] ((evXs row l).getD i (nul, 0))
 | [], _, i, h => absurd h (by simp)
 | e :: l, hf, 0, _ => by
  simp only [Fairs] at hf
  exact c_EvX row hr e hf.1
 | e :: l, hf, i + 1, h => by
  simp only [Fairs] at hf
  exact c_EvXs row hr l hf.2 i (by simpa using h)
end
end Go.Proofs.YtodjimecekaaeaaGreatDoor
namespace Go.Proofs.YtodjimecekaaeaaGreatDoor
open Go.RowKit Go.ChangeShapes Go.WideShapes
set_option linter.unusedSimpArgs false
set_option linter.unusedVariables false
mutual
def Xn : Xp → Nat
 | .mk k op v tb nm sl nt ds args => Xns args + 1
def Xns : List Xp → Nat
 | [] => 0
 | e :: r => Xn e + Xns r
end
mutual
def Xi : Xp → Prop
 | .mk k op v tb nm sl nt ds args => I64 v.2.1 ∧ (I64 sl ∧ I64 k ∧ I64 v.1 ∧ op.length ≤ maxLen ∧ v.2.2.length ≤ maxLen ∧ tb.length ≤ maxLen ∧ nm.length ≤ maxLen) ∧ args.length ≤ maxLen ∧ Xis args
def Xis : List Xp → Prop
 | [] => True
 | e :: r => Xi e ∧ Xis r
end
section
variable {H : Type} {enc : TypeId × Value → H} {P : Program} {W : World}
theorem slice_cells2 {t e : TypeId} (ht : P.underlying t = some (.slice e)) (hpos : 0 < P.cellsOf e) (Q : List CV → DataW H → Prop) {fuel : Nat}
 (hel : ∀ n, n < fuel → ∀ cs y, DataW.trod enc P W 0 (fun _ => true) true n e cs = some y → ∃ el : List CV, CVRs W (fun _ => False) el cs ∧ Q el y.1)
 {v : Value} {x : DataW H × List MemPlace} (h : DataW.trod enc P W 0 (fun _ => true) true fuel t [v] = some x) :
 ∃ (els : List (List CV)) (ds : List (DataW H)), CVR W (fun _ => False) (.vs els) v ∧ els.length ≤ maxLen ∧ ds.length = els.length ∧ (∀ (i : Nat) (el : List CV) (d : DataW H), els[i]? = some el → ds[i]? = some d → Q el d) ∧ Rows.uptoBulkAll ds + 1 ≤ Rows.uptoBulk x.1 := by
 rcases DataW.trod_slice ht h with ⟨h0, rfl⟩ | ⟨a, len, cap, elems, rest, n, hfu, hv, rfl, hb, hl, hm, hlen, hx, hsp, _⟩
 · simp only [List.cons.injEq, and_true] at h0
   subst h0
   exact ⟨[], [], .nil _, Nat.zero_le _, rfl, fun i el d hi => by simp at hi, by simp [Rows.uptoBulk, Rows.uptoBulkAll]⟩
 · simp only [List.cons.injEq, and_true] at hv
   subst hv
   subst hlen
   have bulk : Rows.uptoBulkAll (elems.map (·.1)) + 1 ≤ Rows.uptoBulk (.slice (elems.map (·.1)) (rest.map (·.1)) : DataW H) := by
    simp only [Rows.uptoBulk]; omega
   by_cases hc0 : cap = 0
   · have hz : elems.length = 0 := by omega
     have hz' := List.length_eq_zero_iff.1 hz
     subst hz' hc0
     exact ⟨[], [], .nil _, Nat.zero_le _, rfl, fun i el d hi => by simp at hi, by simpa using bulk⟩
   have each : ∀ i, i < elems.length → ∃ q : List CV × List Value, W.cells? 0 (a.add (i * P.cellsOf e)) (P.cellsOf e) = some q.2 ∧ CVRs W (fun _ => False) q.1 q.2 ∧ ∃ y, elems[i]? = some y ∧ Q q.1 y.1 := fun i hi => by
    have h1 := hx i hi
    rw [List.getElem?_eq_getElem hi] at h1
    obtain ⟨cs', h2, h3⟩ := Option.bind_eq_some_iff.1 h1
    obtain ⟨el, h4, h5⟩ := hel n (by omega) _ _ h3
    exact ⟨(el, cs'), h2, h4, _, List.getElem?_eq_getElem hi, h5⟩
   obtain ⟨q, hq⟩ := Go.Deep.choose_lt each
   have hl1 : ((List.range elems.length).map fun i => (q i).1).length = elems.length := by simp
   have hin : ∀ (i : Nat) (el : List CV), ((List.range elems.length).map fun i => (q i).1)[i]? = some el → i < elems.length ∧ el = (q i).1 := fun i el hi => by
    by_cases h : i < elems.length
    · rw [List.getElem?_map, List.getElem?_range h] at hi
      simp only [Option.map_some, Option.some.injEq] at hi
      exact ⟨h, hi.symm⟩
    · rw [List.getElem?_eq_none (by simp; omega)] at hi
      cases hi
   have hcl : ∀ i, i < elems.length → (q i).1.length = P.cellsOf e ∧ (q i).2.length = P.cellsOf e := fun i hi => by
    obtain ⟨h1, h2, _⟩ := hq i hi
    obtain ⟨_, h3, _⟩ := World.cells?_some h1
    exact ⟨by rw [CVRs.len h2, h3], h3⟩
   have spot_of : ∀ k cs', k = 0 → W.cells? 0 (a.add k) (P.cellsOf e) = some cs' → a.spot = none := fun k cs' hk h1 => by
    subst hk
    obtain ⟨_, h3, h4⟩ := World.cells?_some h1
    have h5 := h4 0 hpos
    rw [List.getElem?_eq_getElem (by omega)] at h5
    have := World.cell?_spot h5
    simpa [Addr.add] using this
   have hspot : a.spot = none := by
    by_cases h0 : elems.length = 0
    · obtain ⟨h1, h2⟩ := hsp rfl
      have h3 := h2 0 (by omega)
      rw [List.getElem?_eq_getElem (by omega)] at h3
      obtain ⟨cs', h4, _⟩ := Option.bind_eq_some_iff.1 h3
      exact spot_of _ _ (by rw [h0]; simp) h4
    · exact spot_of _ _ (by simp) (hq 0 (by omega)).1
   refine ⟨(List.range elems.length).map fun i => (q i).1, elems.map (·.1), ?_, by rw [hl1]; omega, by simp, fun i el d hi hd => ?_, bulk⟩
   · obtain ⟨b, o, spot⟩ := a
     have hspot : spot = none := hspot
     subst hspot
     have hc := CVR.vs (w := W) (X := fun _ => False) ((List.range elems.length).map fun i => (q i).1) b o (P.cellsOf e) cap (fun i f => ((q i).2[f]?).getD default)
      (fun el hel => by
       simp only [List.mem_map, List.mem_range] at hel
       obtain ⟨i, hi, rfl⟩ := hel
       exact (hcl i hi).1)
      (by rw [hl1]; exact hl)
      (fun i el hi f cv hf => by
       obtain ⟨hj, rfl⟩ := hin i el hi
       have hf2 : f < P.cellsOf e := by
        rw [← (hcl i hj).1]
        exact (List.getElem?_eq_some_iff.1 hf).1
       obtain ⟨h1, h2, _⟩ := hq i hj
       obtain ⟨_, h3, h4⟩ := World.cells?_some h1
       have h5 := h4 f hf2
       rw [Go.WideShapes.add_plain, Go.WideShapes.add_plain, List.getElem?_eq_getElem (by omega)] at h5
       refine ⟨fun h => h, ?_⟩
       rw [h5, List.getElem?_eq_getElem (by omega)]; rfl)
      (fun i el hi f cv hf => by
       obtain ⟨hj, rfl⟩ := hin i el hi
       obtain ⟨_, h2, _⟩ := hq i hj
       obtain ⟨r, hr, hv⟩ := h2.at f cv hf
       rw [hr]; exact hv)
     rwa [hl1] at hc
   · obtain ⟨hj, rfl⟩ := hin i el hi
     obtain ⟨_, _, y, hy, hQ⟩ := hq i hj
     rw [List.getElem?_map, hy] at hd
     simp only [Option.map_some, Option.some.injEq] at hd
     subst hd
     exact hQ
theorem xps_of : ∀ {els : List (List CV)} {ds : List (DataW H)} (_ : ds.length = els.length) (_ : ∀ (i : Nat) (el : List CV) (d : DataW H), els[i]? = some el → ds[i]? = some d → ∃ e : Xp, el = e.cells ∧ Xi e ∧ Xn e ≤ Rows.uptoBulk d),
 ∃ l : List Xp, els = xcs l ∧ Xis l ∧ Xns l ≤ Rows.uptoBulkAll ds
 | [], ds, _, _ => ⟨[], rfl, trivial, by simp [Xns]⟩
 | el :: els, d :: ds, hl, h => by
  obtain ⟨e, h1, h2, h3⟩ := h 0 el d rfl rfl
  obtain ⟨l, g1, g2, g3⟩ := xps_of (els := els) (ds := ds) (by simpa using hl) fun i el' d' h4 h5 => h (i + 1) el' d' (by simpa using h4) (by simpa using h5)
  refine ⟨e :: l, by rw [xcs, h1, g1], ⟨h2, g2⟩, ?_⟩
  simp only [Xns, Rows.uptoBulkAll]; omega
 | _ :: _, [], hl, _ => by simp at hl
theorem xp_cells {t : TypeId} {f0 f1 f2 f3 f4 f5 f6 f7 f8 v0 v1 v2 : Field} (ht : P.underlying t = some (.struct #[f0, f1, f2, f3, f4, f5, f6, f7, f8])) (ct : P.cellsOf t = 11)
 (o0 : f0.offset = 0) (o1 : f1.offset = 1) (o2 : f2.offset = 2) (o3 : f3.offset = 5) (o4 : f4.offset = 6) (o5 : f5.offset = 7) (o6 : f6.offset = 8) (o7 : f7.offset = 9) (o8 : f8.offset = 10)
 (c0 : P.cellsOf f0.type = 1) (c1 : P.cellsOf f1.type = 1) (c2 : P.cellsOf f2.type = 3) (c3 : P.cellsOf f3.type = 1) (c4 : P.cellsOf f4.type = 1) (c5 : P.cellsOf f5.type = 1) (c6 : P.cellsOf f6.type = 1) (c7 : P.cellsOf f7.type = 1) (c8 : P.cellsOf f8.type = 1)
 (h0 : P.underlying f0.type = some (.int .i64)) (h1 : P.underlying f1.type = some .string) (h2 : P.underlying f2.type = some (.struct #[v0, v1, v2])) (h3 : P.underlying f3.type = some .string) (h4 : P.underlying f4.type = some .string)
 (h5 : P.underlying f5.type = some (.int .i64)) (h6 : P.underlying f6.type = some .bool) (h7 : P.underlying f7.type = some .bool) (h8 : P.underlying f8.type = some (.slice t))
 (p0 : v0.offset = 0) (p1 : v1.offset = 1) (p2 : v2.offset = 2) (q0 : P.cellsOf v0.type = 1) (q1 : P.cellsOf v1.type = 1) (q2 : P.cellsOf v2.type = 1) (u0 : P.underlying v0.type = some (.int .i64)) (u1 : P.underlying v1.type = some (.int .i64)) (u2 : P.underlying v2.type = some .string) :
 ∀ (n : Nat) (cs : List Value) (x : DataW H × List MemPlace), DataW.trod enc P W 0 (fun _ => true) true n t cs = some x → ∃ e : Xp, CVRs W (fun _ => False) e.cells cs ∧ Xi e ∧ Xn e ≤ Rows.uptoBulk x.1 := by
 intro n
 induction n using Nat.strongRecOn with
 | _ n ih =>
  intro cs x h
  obtain ⟨xs, k, hk, rfl, hl, hxl, hf⟩ := DataW.trod_struct ht h
  rw [ct] at hl
  match cs, hl, xs, hxl with
  | [a0, a1, a2, a3, a4, a5, a6, a7, a8, a9, a10], _, [y0, y1, y2, y3, y4, y5, y6, y7, y8], _ =>
   have g0 := hf 0 f0 rfl
   have g1 := hf 1 f1 rfl
   have g2 := hf 2 f2 rfl
   have g3 := hf 3 f3 rfl
   have g4 := hf 4 f4 rfl
   have g5 := hf 5 f5 rfl
   have g6 := hf 6 f6 rfl
   have g7 := hf 7 f7 rfl
   have g8 := hf 8 f8 rfl
   simp [o0, o1, o2, o3, o4, o5, o6, o7, o8, c0, c1, c2, c3, c4, c5, c6, c7, c8] at g0 g1 g2 g3 g4 g5 g6 g7 g8
   obtain ⟨z0, e0, _, w0⟩ := DataW.trod_int h0 g0
   obtain ⟨s1, e1, _, w1⟩ := DataW.trod_string h1 g1
   obtain ⟨el, l2, v, rfl, i0, i1, i2⟩ := val_cells h2 c2 p0 p1 p2 q0 q1 q2 u0 u1 u2 _ _ _ g2
   obtain ⟨s3, e3, _, w3⟩ := DataW.trod_string h3 g3
   obtain ⟨s4, e4, _, w4⟩ := DataW.trod_string h4 g4
   obtain ⟨z5, e5, _, w5⟩ := DataW.trod_int h5 g5
   obtain ⟨b6, e6, _⟩ := DataW.trod_bool h6 g6
   obtain ⟨b7, e7, _⟩ := DataW.trod_bool h7 g7
   obtain ⟨els, ds, l8, n8, hd, hQ, hbk⟩ := slice_cells2 h8 (by omega) (fun el d => ∃ e : Xp, el = e.cells ∧ Xi e ∧ Xn e ≤ Rows.uptoBulk d) (fun m hm cs' y hy => by
    obtain ⟨e, r1, r2, r3⟩ := ih m (by omega) cs' y hy
    exact ⟨e.cells, r1, e, rfl, r2, r3⟩) g8
   obtain ⟨args, rfl, xi, xn⟩ := xps_of hd hQ
   simp only [List.cons.injEq, and_true] at e0 e1 e3 e4 e5 e6 e7
   subst e0 e1 e3 e4 e5 e6 e7
   refine ⟨.mk z0 s1.data.toList v s3.data.toList s4.data.toList z5 b6 b7 args, ?_, ?_, ?_⟩
   · simp only [CVRs] at l2
     obtain ⟨m1, m2, m3, _⟩ := l2
     simp only [Xp.cells, CVRs]
     exact ⟨.v _ rfl, by rw [← bs_of s1]; exact .v _ rfl, m1, m2, m3, by rw [← bs_of s3]; exact .v _ rfl, by rw [← bs_of s4]; exact .v _ rfl, .v _ rfl, .v _ rfl, .v _ rfl, l8, trivial⟩
   · simp only [Xi]
     rw [xcs_len] at n8
     exact ⟨i1, ⟨wf_i64 w5, wf_i64 w0, i0, w1, i2, w3, w4⟩, n8, xi⟩
   · simp only [Xn, List.map_cons, List.map_nil, Rows.uptoBulk, Rows.uptoBulkAll]
     omega
end
set_option maxRecDepth 100000 in
theorem expr_cells {H : Type} {enc : TypeId × Value → H} {W : World} : ∀ (n : Nat) (cs : List Value) (x : DataW H × List MemPlace), DataW.trod enc Tryz.prog W 0 (fun _ => true) true n 57 cs = some x → ∃ e : Xp, CVRs W (fun _ => False) e.cells cs ∧ Xi e ∧ Xn e ≤ Rows.uptoBulk x.1 :=
 xp_cells Tryz.underlying57 (by kernel_rfl) rfl rfl rfl rfl rfl rfl rfl rfl rfl (by kernel_rfl) (by kernel_rfl) (by kernel_rfl) (by kernel_rfl) (by kernel_rfl) (by kernel_rfl) (by kernel_rfl) (by kernel_rfl) (by kernel_rfl)
  Tryz.underlying3 Tryz.underlying9 Tryz.underlying53 Tryz.underlying9 Tryz.underlying9 Tryz.underlying3 Tryz.underlying4 Tryz.underlying4 Tryz.underlying22
  rfl rfl rfl (by kernel_rfl) (by kernel_rfl) (by kernel_rfl) Tryz.underlying3 Tryz.underlying2 Tryz.underlying9
set_option maxRecDepth 100000 in
theorem exprs_arg {H : Type} {enc : TypeId × Value → H} {W : World} {v : Value} {d : DataW H} {ps : List MemPlace} (hval : Value.okWide Tryz.prog W .any 0 22 v) (h : DataW.Trod enc Tryz.prog W 0 (fun _ => true) true 22 v d ps) :
 ∃ l : List Xp, DVR W (fun _ => False) (.c (.vs (xcs l))) v ∧ Xis l ∧ Xns l ≤ Rows.uptoBulk d := by
 obtain ⟨fuel, h⟩ := h
 unfold Value.okWide at hval
 rw [Tryz.underlying22] at hval
 simp only [] at hval
 have hc : v.cells.toList = [v] := by
  cases v <;> first | rfl | (exfalso; unfold Cell.okWide Cell.ok at hval; rw [Tryz.underlying22] at hval; exact hval)
 rw [hc] at h
 obtain ⟨els, ds, h1, h2, h3, h4, h5⟩ := slice_cells2 Tryz.underlying22 (of_decide_eq_true (by kernel_rfl)) (fun el d => ∃ e : Xp, el = e.cells ∧ Xi e ∧ Xn e ≤ Rows.uptoBulk d) (fun n _ cs y hy => by
  obtain ⟨e, r1, r2, r3⟩ := expr_cells n cs y hy
  exact ⟨e.cells, r1, e, rfl, r2, r3⟩) h
 obtain ⟨l, rfl, g2, g3⟩ := xps_of h3 h4
 refine ⟨l, ?_, g2, Nat.le_trans g3 (Nat.le_of_succ_le h5)⟩
 simp only [DVR]
 exact h1
end Go.Proofs.YtodjimecekaaeaaGreatDoor
namespace Go.Proofs.YtodjimecekaaeaaGreatDoor
open Go.RowKit Go.IntWalk
set_option linter.unusedSimpArgs false
set_option linter.unusedVariables false
def Nz (r : V3 × Int) : Prop := r.2 ≠ 0 → r.1 = nul
theorem nz_fin {r : V3 × Int} (h : Nz r) : finP r = r := by
 unfold finP
 split
 · rename_i h0
   rw [← h h0]
 · rename_i h0
   rw [← Classical.not_not.1 h0]
theorem nz_ok (v : V3) : Nz (v, 0) := fun h => absurd rfl h
theorem nz_bad (e : Int) : Nz (nul, e) := fun _ => rfl
theorem nz_valFitR (s : Int) : Nz (fitR s) := by
 unfold fitR
 split
 · exact nz_ok _
 · exact nz_bad _
theorem nz_arith (op : List UInt8) (a b : V3) : Nz (arithV op a b) := by
 unfold arithV divR
 repeat' split
 all_goals first | exact nz_ok _ | exact nz_bad _ | exact nz_valFitR _
theorem nz_un (op : List UInt8) (v : V3) : Nz (unV op v) := by
 unfold unV
 split
 · intro h
   have h : (tru v).2.2 ≠ 0 := h
   have : (tru v).2.1 = false := by
    unfold tru at h ⊢
    split
    · rfl
    · rename_i hn; rw [if_neg hn] at h; exact absurd rfl h
   show truV _ (tru v).2.1 = nul
   rw [this]; rfl
 · repeat' split
   all_goals first | exact nz_ok _ | exact nz_bad _ | exact nz_arith _ _ _
theorem nz_join (a b : V3) : Nz (joinV2 a b) := by
 unfold joinV2
 repeat' split
 all_goals first | exact nz_ok _ | exact nz_bad _
theorem nz_both (a b : V3) (s : Bool) : Nz (bothV a b s) := by
 unfold bothV
 repeat' split
 all_goals first | exact nz_ok _ | exact nz_bad _
theorem nz_bin (op : List UInt8) (a b : V3) : Nz (binV op a b) := by
 unfold binV
 split
 · exact nz_join a b
 · split
   · exact nz_arith op a b
   · split
     · exact nz_ok _
     · split
       · exact nz_both a b false
       · split
         · exact nz_both a b true
         · exact nz_bad _
theorem nz_fitP (r : V3 × Int) : Nz (fitP r) := by
 unfold fitP
 repeat' split
 all_goals first | exact nz_ok _ | exact nz_bad _
theorem nz_res (op : List UInt8) (L : List V3) : Nz (resC op L) := by
 unfold resC
 split
 · split
   · exact nz_fitP _
   · exact nz_bad _
 · exact nz_bad _
theorem nz_cast (v : V3) (ty : Int) : Nz (castV v ty) := by
 unfold castV numberV
 repeat' split
 all_goals first | exact nz_ok _ | exact nz_bad _
theorem nz_ecast (op : List UInt8) (v : V3) : Nz (ecastV op v) := by
 unfold ecastV
 repeat' split
 all_goals first | exact nz_cast _ _ | exact nz_bad _
theorem c_rparts (k : Int) (op : List UInt8) (v : V3) (tb nm : List UInt8) (sl : Int) (nt ds : Bool) (args : List Xp) : FnC Tryz.prog 36 [xD (.mk k op v tb nm sl nt ds args)] (bD (decide (okN k ds args.length))) := by
 unfold xD
 simp only [Xp.cells]
 refine w36 k (bs op) v.1 v.2.1 (bs v.2.2) (bs tb) (bs nm) sl nt ds (xcs args) ?_
 rw [xcs_len]
 generalize args.length = n
 unfold okN
 (repeat' (first | with_reducible refine ⟨fun _ => ?_, fun _ => ?_⟩ | fail))
 all_goals (refine congrArg bD ?_; rw [Bool.eq_iff_iff]; cases ds <;> simp [*] <;> omega)
def tyN (op : List UInt8) : Int := if op = wInt then 1 else if op = wText then 2 else if op = wBlob then 3 else 0
theorem c_rtyped (op : List UInt8) : FnC Tryz.prog 41 [sD op] (iD (tyN op)) := by
 refine w41 (bs op) ?_
 simp only [mk_bs, bs_inj]
 unfold tyN
 refine ⟨fun h1 => by rw [if_pos (show op = wInt from h1)], fun h1 => ⟨fun h2 => by rw [if_neg (show ¬ op = wInt from h1), if_pos (show op = wText from h2)], fun h2 => ⟨fun h3 => by rw [if_neg (show ¬ op = wInt from h1), if_neg (show ¬ op = wText from h2), if_pos (show op = wBlob from h3)], fun h3 => by rw [if_neg (show ¬ op = wInt from h1), if_neg (show ¬ op = wText from h2), if_neg (show ¬ op = wBlob from h3)]⟩⟩⟩
theorem ecast_ty (op : List UInt8) (v : V3) : ecastV op v = if tyN op = 0 then (nul, 1) else castV v (tyN op) := by
 by_cases h1 : op = wInt
 · subst h1; rfl
 · by_cases h2 : op = wBlob
   · subst h2; rfl
   · by_cases h3 : op = wText
     · subst h3; rfl
     · unfold ecastV tyN
       simp only [h1, h2, h3, if_false, if_true]
theorem orB_tt (t : Bool × Bool) : orB (true, true) t = (true, true) := by
 obtain ⟨i, k⟩ := t
 cases i <;> cases k <;> rfl
def orF (a : V3) (s : Bool × Bool) : List V3 → Bool × Bool
 | [] => s
 | v :: R => orF a (orB s (heldT [61] a v)) R
theorem orF_tt (a : V3) : ∀ R : List V3, orF a (true, true) R = (true, true)
 | [] => rfl
 | v :: R => by rw [orF, orB_tt, orF_tt a R]
theorem inV_orF (a : V3) : ∀ (R : List V3) (kn : Bool), inV a R kn = tv (orF a (false, kn) R)
 | [], kn => rfl
 | v :: R, kn => by
  rw [inV, orF, held_T]
  generalize heldT [61] a v = h
  obtain ⟨h1, h2⟩ := h
  cases h1 <;> cases h2
  · rw [if_neg (by decide), inV_orF a R]
    cases kn <;> rfl
  · rw [if_neg (by decide), inV_orF a R]
    cases kn <;> rfl
  · rw [if_neg (by decide), inV_orF a R]
    cases kn <;> rfl
  · rw [if_pos (by decide)]
    have : orB (false, kn) (true, true) = (true, true) := by cases kn <;> rfl
    rw [this, orF_tt]
theorem tru_truV (t : Bool × Bool) : tru (tv t) = (t.2 && t.1, t.2, 0) := by
 obtain ⟨i, k⟩ := t
 cases i <;> cases k <;> rfl
theorem between_of (a b c : V3) (nt : Bool) : turnV (bothV (heldV [62, 61] a b) (heldV [60, 61] a c) false).1 nt = truV (!((andB (heldT [62, 61] a b) (heldT [60, 61] a c)).1 == nt)) (andB (heldT [62, 61] a b) (heldT [60, 61] a c)).2 := by
 rw [held_T, held_T, (both_of _ _ (by rw [tru_truV]) (by rw [tru_truV])).1, tru_truV, tru_truV]
 generalize heldT [62, 61] a b = s
 generalize heldT [60, 61] a c = t
 obtain ⟨s1, s2⟩ := s
 obtain ⟨t1, t2⟩ := t
 cases s1 <;> cases s2 <;> cases t1 <;> cases t2 <;> cases nt <;> rfl
theorem enc_one (s : Bool × Bool) : enc s.1 s.2 = 1 ↔ (s.2 && s.1) = true := by
 obtain ⟨s1, s2⟩ := s
 cases s1 <;> cases s2 <;> decide
theorem c_rheldT (op : List UInt8) (a b : V3) (ha : Sz a.2.2) (hb : Sz b.2.2) : FnC Tryz.prog 46 [sD op, vD a, vD b] (iD (enc (heldT op a b).1 (heldT op a b).2)) := c_rheld op a b ha hb
abbrev RvR (row : List V3) (e : Xp) (r : V3 × Int) : Prop := FnC Tryz.prog 19 [xD e, .c (.vs (vc row))] (tupE r)
section
variable (k : Int) (op : List UInt8) (v : V3) (tb nm : List UInt8) (sl : Int) (nt ds : Bool) (args : List Xp) (row : List V3)
theorem c_rcases (X : List (V3 × Int)) (hX : X.length = args.length) (hG : ∀ x ∈ X, Sz x.1.2.2) (hm : ds = true → 1 ≤ args.length) (hl : args.length ≤ 100000)
 (hA : ∀ i (h : i < args.length), RvR row args[i] (X.getD i (nul, 0))) : FnC Tryz.prog 37 [xD (.mk k op v tb nm sl nt ds args), .c (.vs (vc row))] (tupE (casV ds X)) := by
 unfold xD
 simp only [Xp.cells]
 refine w37 k (bs op) v.1 v.2.1 (bs v.2.2) (bs tb) (bs nm) sl nt ds (xcs args) (vc row) ?_
 unfold casV
 have gn : Sz (nul : V3).2.2 := sz_nil
 refine ⟨fun h => ?_, fun h => ?_⟩
 · rw [if_pos h]
   match args, X, hX, hG, hm h, hA, hl with
   | e0 :: args, b0 :: X0, hX, hG, _, hA, hl =>
   have hds : ¬ ¬ ds = true := fun e => e h
   have h0 : RvR row e0 b0 := hA 0 (by simp)
   have hX0 : X0.length = args.length := by simpa using hX
   have hC0 : ∀ i (h : i < args.length), RvR row args[i] (X0.getD i (nul, 0)) := fun i hi => hA (i + 1) (by simpa using hi)
   have hls : ((e0 :: args).length : Int) = args.length + 1 := by simp
   have hl0 : args.length ≤ 100000 := by simp at hl; omega
   rw [xs_D _ (0 : Int) (by omega) (by omega), xcs_len]
   refine ⟨by omega, xcs_sz _, xs_k _ _ (by omega) (by omega), _, _, _, _, h0, fun h1 => by simp only [if_pos h1] <;> rfl, fun h1 => ?_⟩
   simp only [if_neg h1]
   have hd0 : (xcs (e0 :: args)).drop (1 : Int).toNat = xcs args := by rw [xcs_drop]; rfl
   rw [hd0]
   have gX0 : ∀ x ∈ X0, Sz x.1.2.2 := fun x hx => hG x (by simp [hx])
   have gb : Sz b0.1.2.2 := hG b0 (by simp)
   refine ⟨by omega, xcs_sz _, ?_⟩
   generalize hZ : pairsV (some b0.1) X0 = Z
   refine ⟨fun i m => ∃ K : Nat, i = K ∧ K ≤ args.length ∧ K % 2 = 0 ∧ Z = pairsV (some b0.1) (X0.drop K) ∧ m = args.length - K, ⟨_, 0, rfl, by omega, rfl, hZ.symm, rfl⟩, ?_⟩
   rintro m i ⟨K, rfl, hK, hev, hP, rfl⟩
   rw [xcs_len, i64_in ((K : Int) + 1) (by omega), i64_in ((K : Int) + 2) (by omega), i64_in ((args.length : Int) - 1) (by omega)]
   refine ⟨fun hi => ?_, fun hi => ?_⟩
   · have hd : X0.drop K = X0.getD K (nul, 0) :: X0.getD (K + 1) (nul, 0) :: X0.drop (K + 2) := by
      rw [List.drop_eq_getElem_cons (by omega), List.drop_eq_getElem_cons (by omega)]
      simp [List.getD_eq_getElem?_getD, show K < X0.length by omega, show K + 1 < X0.length by omega]
     have hc := hC0 K (by omega)
     have hr := hC0 (K + 1) (by omega)
     have hs1 : Sz (X0.getD K (nul, 0)).1.2.2 := gX0 _ (by rw [List.getD_eq_getElem?_getD, List.getElem?_eq_getElem (by omega)]; exact List.getElem_mem _)
     have e1 : args[(K : Int).toNat]'(by omega) = args[K]'(by omega) := by simp
     have e2 : args[((K : Int) + 1).toNat]'(by omega) = args[K + 1]'(by omega) := by
      congr 1
     rw [xs_D _ _ (by omega) (by omega), xs_D _ ((K : Int) + 1) (by omega) (by omega), e1, e2]
     have next : (K + 2 ≤ args.length ∧ Z = pairsV (some b0.1) (X0.drop (K + 2))) → (∃ k', k' < args.length - K ∧ ∃ K' : Nat, (K : Int) + 2 = K' ∧ K' ≤ args.length ∧ K' % 2 = 0 ∧ Z = pairsV (some b0.1) (X0.drop K') ∧ k' = args.length - K') := by
      rintro ⟨h1, h2⟩
      exact ⟨args.length - (K + 2), by omega, K + 2, by omega, h1, by omega, h2, rfl⟩
     refine ⟨by omega, xcs_sz _, xs_k _ _ (by omega) (by omega), _, _, _, _, hc, fun h => ?_, fun h => ⟨_, c_rheldT [61] b0.1 _ gb hs1, ?_⟩⟩
     · rw [hP, hd, pairsV, caseV, if_pos h, if_pos h]; rfl
     · have cv : caseV (some b0.1) (X0.getD K (nul, 0)) = ((heldT [61] b0.1 (X0.getD K (nul, 0)).1).2 && (heldT [61] b0.1 (X0.getD K (nul, 0)).1).1, 0) := by
        rw [caseV, if_neg h, held_T, tru_truV]
       have eo := enc_one (heldT [61] b0.1 (X0.getD K (nul, 0)).1)
       refine ⟨fun h2 => absurd h2 hds, fun _ => ⟨fun h3 => absurd h3 h, fun _ => ⟨fun h4 => ?_, fun h4 => ?_⟩⟩⟩
       · rw [hP, hd, pairsV, cv, if_neg (fun h => h rfl), if_pos (eo.1 h4)]
         exact ⟨by omega, xcs_sz _, xs_k _ _ (by omega) (by omega), _, _, _, _, hr, rfl⟩
       · refine next ⟨by omega, ?_⟩
         rw [hP, hd, pairsV, cv, if_neg (fun h => h rfl), if_neg (fun e => h4 (eo.2 e))]
   · have hrem : X0.drop K = [] ∨ ∃ x, X0.drop K = [x] ∧ x = X0.getD K (nul, 0) := by
      by_cases hz : K = args.length
      · exact .inl (List.drop_eq_nil_of_le (by omega))
      · right
        refine ⟨X0.getD K (nul, 0), ?_, rfl⟩
        rw [List.drop_eq_getElem_cons (by omega), List.drop_eq_nil_of_le (by omega)]
        simp [List.getD_eq_getElem?_getD, show K < X0.length by omega]
     refine ⟨by decide, fun h1 => ?_, fun h1 => ?_⟩
     · have hz : K + 1 = args.length := by
        have : (Int.tmod (args.length : Int) 2) = ((args.length % 2 : Nat) : Int) := by rw [Int.tmod_eq_emod_of_nonneg (by omega)]; omega
        rw [this] at h1
        omega
       have hc := hC0 K (by omega)
       have e1 : args[((args.length : Int) - 1).toNat]'(by omega) = args[K]'(by omega) := by
        congr 1; omega
       rw [xs_D _ _ (by omega) (by omega), e1, hP]
       rcases hrem with h | ⟨x, h, rfl⟩
       · have := congrArg List.length h
         simp at this; omega
       · rw [h, pairsV]
         exact ⟨by omega, xcs_sz _, xs_k _ _ (by omega) (by omega), _, _, _, _, hc, rfl⟩
     · have hz : K = args.length := by
        have : (Int.tmod (args.length : Int) 2) = ((args.length % 2 : Nat) : Int) := by rw [Int.tmod_eq_emod_of_nonneg (by omega)]; omega
        rw [this] at h1
        omega
       rw [hP, List.drop_eq_nil_of_le (by omega)]; rfl
 · rw [if_neg h]
   have hds : ¬ ds = true := h
   have gX := hG
   generalize hZ : pairsV none X = Z
   refine ⟨fun i m => ∃ K : Nat, i = K ∧ K ≤ args.length ∧ K % 2 = 0 ∧ Z = pairsV none (X.drop K) ∧ m = args.length - K, ⟨_, 0, rfl, by omega, rfl, hZ.symm, rfl⟩, ?_⟩
   rintro m i ⟨K, rfl, hK, hev, hP, rfl⟩
   rw [xcs_len, i64_in ((K : Int) + 1) (by omega), i64_in ((K : Int) + 2) (by omega), i64_in ((args.length : Int) - 1) (by omega)]
   refine ⟨fun hi => ?_, fun hi => ?_⟩
   · have hd : X.drop K = X.getD K (nul, 0) :: X.getD (K + 1) (nul, 0) :: X.drop (K + 2) := by
      rw [List.drop_eq_getElem_cons (by omega), List.drop_eq_getElem_cons (by omega)]
      simp [List.getD_eq_getElem?_getD, show K < X.length by omega, show K + 1 < X.length by omega]
     have hc := hA K (by omega)
     have hr := hA (K + 1) (by omega)
     have hs1 : Sz (X.getD K (nul, 0)).1.2.2 := gX _ (by rw [List.getD_eq_getElem?_getD, List.getElem?_eq_getElem (by omega)]; exact List.getElem_mem _)
     have e1 : args[(K : Int).toNat]'(by omega) = args[K]'(by omega) := by simp
     have e2 : args[((K : Int) + 1).toNat]'(by omega) = args[K + 1]'(by omega) := by
      congr 1
     rw [xs_D _ _ (by omega) (by omega), xs_D _ ((K : Int) + 1) (by omega) (by omega), e1, e2]
     have next : (K + 2 ≤ args.length ∧ Z = pairsV none (X.drop (K + 2))) → (∃ k', k' < args.length - K ∧ ∃ K' : Nat, (K : Int) + 2 = K' ∧ K' ≤ args.length ∧ K' % 2 = 0 ∧ Z = pairsV none (X.drop K') ∧ k' = args.length - K') := by
      rintro ⟨h1, h2⟩
      exact ⟨args.length - (K + 2), by omega, K + 2, by omega, h1, by omega, h2, rfl⟩
     refine ⟨by omega, xcs_sz _, xs_k _ _ (by omega) (by omega), _, _, _, _, hc, fun h => ?_, fun h => ⟨_, c_rheldT [61] nul _ gn hs1, ?_⟩⟩
     · rw [hP, hd, pairsV, caseV, if_pos h, if_pos h]; rfl
     · obtain ⟨p1, p2⟩ := trN_tru (X.getD K (nul, 0)).1
       have cv : caseV none (X.getD K (nul, 0)) = ((tru (X.getD K (nul, 0)).1).1, (tru (X.getD K (nul, 0)).1).2.2) := by
        rw [caseV, if_neg h]
       have imp := tru_imp (X.getD K (nul, 0)).1
       refine ⟨fun _ => ⟨_, _, c_rTruth _, fun h4 => ?_, fun h4 => ?_⟩, fun h2 => absurd hds h2⟩
       · rw [p1] at h4 ⊢
         rw [hP, hd, pairsV, cv, if_pos h4]; rfl
       · rw [p1] at h4
         have h5 := Classical.not_not.1 h4
         rw [p2 h5]
         have eo := enc_one ((tru (X.getD K (nul, 0)).1).1, (tru (X.getD K (nul, 0)).1).2.1)
         simp only [] at eo
         refine ⟨fun h6 => ?_, fun h6 => ?_⟩
         · have h7 := eo.1 h6
           simp only [Bool.and_eq_true] at h7
           rw [hP, hd, pairsV, cv, if_neg h4, if_pos h7.2]
           exact ⟨by omega, xcs_sz _, xs_k _ _ (by omega) (by omega), _, _, _, _, hr, rfl⟩
         · refine next ⟨by omega, ?_⟩
           rw [hP, hd, pairsV, cv, if_neg h4, if_neg (fun h7 => h6 (eo.2 (by rw [h7, imp h7]; rfl)))]
   · have hrem : X.drop K = [] ∨ ∃ x, X.drop K = [x] ∧ x = X.getD K (nul, 0) := by
      by_cases hz : K = args.length
      · exact .inl (List.drop_eq_nil_of_le (by omega))
      · right
        refine ⟨X.getD K (nul, 0), ?_, rfl⟩
        rw [List.drop_eq_getElem_cons (by omega), List.drop_eq_nil_of_le (by omega)]
        simp [List.getD_eq_getElem?_getD, show K < X.length by omega]
     refine ⟨by decide, fun h1 => ?_, fun h1 => ?_⟩
     · have hz : K + 1 = args.length := by
        have : (Int.tmod (args.length : Int) 2) = ((args.length % 2 : Nat) : Int) := by rw [Int.tmod_eq_emod_of_nonneg (by omega)]; omega
        rw [this] at h1
        omega
       have hc := hA K (by omega)
       have e1 : args[((args.length : Int) - 1).toNat]'(by omega) = args[K]'(by omega) := by
        congr 1; omega
       rw [xs_D _ _ (by omega) (by omega), e1, hP]
       rcases hrem with h | ⟨x, h, rfl⟩
       · have := congrArg List.length h
         simp at this; omega
       · rw [h, pairsV]
         exact ⟨by omega, xcs_sz _, xs_k _ _ (by omega) (by omega), _, _, _, _, hc, rfl⟩
     · have hz : K = args.length := by
        have : (Int.tmod (args.length : Int) 2) = ((args.length % 2 : Nat) : Int) := by rw [Int.tmod_eq_emod_of_nonneg (by omega)]; omega
        rw [this] at h1
        omega
       rw [hP, List.drop_eq_nil_of_le (by omega)]; rfl
theorem vc_app (L M : List V3) : vc L ++ vc M = vc (L ++ M) := by simp [vc]
theorem c_rtop (X : List (V3 × Int)) (hX : X.length = args.length) (hv : Gd v) (hop : op.length ≤ 1000) (hl : args.length ≤ 100000) (hG : ∀ x ∈ X, Gd x.1)
 (hA : ∀ i (h : i < args.length), RvR row args[i] (X.getD i (nul, 0))) : RvR row (.mk k op v tb nm sl nt ds args) (topV k op v sl nt ds X row) := by
 have hp := c_rparts k op v tb nm sl nt ds args
 have hcs := fun h => c_rcases k op v tb nm sl nt ds args row X hX (fun x hx => (hG x hx).sz) h hl hA
 unfold RvR
 unfold xD at hp hcs ⊢
 simp only [Xp.cells] at hp hcs ⊢
 refine w19 k (bs op) v.1 v.2.1 (bs v.2.2) (bs tb) (bs nm) sl nt ds (xcs args) (vc row) ?_
 unfold topV
 rw [hX]
 refine ⟨fun h => ?_, fun h11 => ⟨_, hp, fun h => ?_, fun h => ?_⟩⟩
 · rw [if_neg (by omega), nodeV, if_pos (by rw [mayV, if_pos h]; decide), mayV, if_pos h]; rfl
 · have hno : ¬ okN k ds args.length := fun e => h (decide_eq_true e)
   have hm : mayV k ds args.length = 1 := by rw [mayV, if_neg h11, if_neg hno]
   have e1 : (if k = 9 then (if mayV k ds args.length ≠ 0 then (nul, mayV k ds args.length) else casV ds X) else nodeV k ds args.length X (reckV k op v sl nt (X.map (·.1)) row)) = (nul, 1) := by
    by_cases hk : k = 9
    · rw [if_pos hk, hm, if_pos (by decide)]
    · rw [if_neg hk, nodeV, hm, if_pos (by decide)]
   rw [e1]; rfl
 have hok : okN k ds args.length := of_decide_eq_true (Classical.not_not.1 h)
 have hm : mayV k ds args.length = 0 := by rw [mayV, if_neg h11, if_pos hok]
 refine ⟨fun h9 => ?_, fun h9 => ?_⟩
 · rw [if_pos h9, if_neg (by rw [hm]; exact fun h => h rfl)]
   refine ⟨_, _, _, _, hcs fun hd => ?_, rfl⟩
   unfold okN at hok
   rw [hd] at hok
   simp at hok
   omega
 rw [if_neg h9, nodeV, if_neg (by rw [hm]; exact fun h => h rfl), xcs_len]
 refine ⟨fun rows i m => ∃ K : Nat, rows = vc ((X.take K).map (·.1)) ∧ i = K ∧ K ≤ args.length ∧ (∀ j, j < K → (X.getD j (nul, 0)).2 = 0) ∧ m = args.length - K, ⟨_, 0, rfl, rfl, by omega, fun j hj => by omega, rfl⟩, ?_⟩
 rintro m rows i ⟨K, rfl, rfl, hK, hJ, rfl⟩
 refine ⟨fun hi => ⟨by omega, xcs_sz _, xs_k _ _ (by omega) (by omega), ?_⟩, fun hi => ?_⟩
 · rw [xs_D _ _ (by omega) (by omega)]
   have ha := hA K (by omega)
   have e : args[(K : Int).toNat]'(by omega) = args[K]'(by omega) := by simp
   rw [e]
   refine ⟨_, _, _, _, ha, fun h => ?_, fun h => ?_⟩
   · have := errV_at X K (by omega) hJ h
     rw [if_pos (by rw [this]; exact h), this]; rfl
   · intro x19 h19
     obtain rfl : x19 = vc [(X.getD K (nul, 0)).1] := h19
     refine ⟨by rw [vc_len, vc_len]; simp; omega, ?_⟩
     rintro x20 rfl
     refine ⟨args.length - (K + 1), by omega, K + 1, ?_, by rw [i64_in _ (by omega)]; omega, by omega, fun j hj => ?_, rfl⟩
     · rw [vc_app]
       have : X.take (K + 1) = X.take K ++ [X.getD K (nul, 0)] := by
        rw [List.take_add_one]
        congr 1
        simp [List.getD_eq_getElem?_getD, show K < X.length by omega]
       rw [this, List.map_append]; rfl
     · by_cases ej : j = K
       · subst ej; exact Classical.not_not.1 h
       · exact hJ j (by omega)
 have eK : K = args.length := by omega
 subst eK
 have he := errV_none X fun j hj => hJ j (by omega)
 rw [if_neg (by rw [he]; exact fun h => h rfl), ← hX, List.take_length]
 have hL : ∀ a ∈ X.map (·.1), Gd a := fun a ha => by
  obtain ⟨x, hx, rfl⟩ := List.mem_map.1 ha
  exact hG x hx
 have hLn : (X.map (·.1)).length = args.length := by rw [List.length_map, hX]
 rw [← hLn] at hok hl
 clear hA hG hJ he hcs hp
 generalize X.map (·.1) = L at *
 simp only [mk_bs]
 rcases hok with ⟨h1 | h1, h2⟩ | ⟨h1 | h1, h2⟩ | ⟨h1 | h1 | h1, h2⟩ | ⟨h1, h2⟩ | ⟨h1, h2⟩ | ⟨h1, h2⟩ | h1
 all_goals subst h1
 · exact ⟨fun _ => rfl, fun h => absurd rfl h⟩
 · refine ⟨fun h => absurd h (by decide), fun _ => ⟨fun _ => ?_, fun h => absurd rfl h⟩⟩
   rw [vc_len]
   have e : ∀ c : Prop, [Decidable c] → finP (if c then (nul, 1) else (row.getD sl.toNat nul, 0)) = if c then (nul, 1) else (row.getD sl.toNat nul, 0) := fun c _ => by split <;> rfl
   have e2 : finP (reckV 2 op v sl nt L row) = if sl < 0 ∨ (row.length : Int) ≤ sl then (nul, 1) else (row.getD sl.toNat nul, 0) := e _
   rw [e2]
   refine ⟨fun h => by rw [if_pos h] <;> rfl, fun h => ?_⟩
   rw [if_neg h, vc_vD _ _ (by omega) (by omega)]
   exact ⟨by omega, vc_sz _, vc_k _ _ (by omega) (by omega), rfl⟩
 · obtain ⟨a, rfl⟩ := len1 h2
   iterate 2 refine ⟨fun h => absurd h (by decide), fun _ => ?_⟩
   have e2 : finP (reckV 3 op v sl nt [a] row) = unV op a := nz_fin (nz_un op a)
   rw [e2, vc_vD _ (0 : Int) (by omega) (by simp)]
   exact ⟨fun _ => ⟨by simp [vc_len], vc_k _ _ (by omega) (by simp), _, _, _, _, c_rUn op a (hL a (by simp)).2.1 (hL a (by simp)).1, rfl⟩, fun h => absurd rfl h⟩
 · obtain ⟨a, rfl⟩ := len1 h2
   iterate 5 refine ⟨fun h => absurd h (by decide), fun _ => ?_⟩
   have e2 : finP (reckV 12 op v sl nt [a] row) = ecastV op a := nz_fin (nz_ecast op a)
   rw [e2, ecast_ty, vc_vD _ (0 : Int) (by omega) (by simp)]
   refine ⟨fun _ => ⟨_, c_rtyped op, fun h => by rw [if_pos h] <;> rfl, fun h => ?_⟩, fun h => absurd rfl h⟩
   rw [if_neg h]
   exact ⟨by simp [vc_len], vc_k _ _ (by omega) (by simp), _, c_rtyped op, _, _, _, _, c_r4Cast a (tyN op) (hL a (by simp)).2.1 (hL a (by simp)).sz, rfl⟩
 · obtain ⟨a, b, rfl⟩ := len2 h2
   iterate 3 refine ⟨fun h => absurd h (by decide), fun _ => ?_⟩
   have e2 : finP (reckV 4 op v sl nt [a, b] row) = binV op a b := nz_fin (nz_bin op a b)
   rw [e2, vc_vD _ (0 : Int) (by omega) (by simp), vc_vD _ (1 : Int) (by omega) (by simp)]
   exact ⟨fun _ => ⟨by simp [vc_len], vc_k _ _ (by omega) (by simp), by simp [vc_len], vc_k _ _ (by omega) (by simp), _, _, _, _, c_rBin op a b (hL a (by simp)).2.1 (hL b (by simp)).2.1 (hL a (by simp)).sz (hL b (by simp)).sz, rfl⟩, fun h => absurd rfl h⟩
 · obtain ⟨a, b, rfl⟩ := len2 h2
   iterate 6 refine ⟨fun h => absurd h (by decide), fun _ => ?_⟩
   have e2 : finP (reckV 5 op v sl nt [a, b] row) = (truV (!((cmpV a b 0 == 0) == nt)) true, 0) := rfl
   rw [e2, vc_vD _ (0 : Int) (by omega) (by simp), vc_vD _ (1 : Int) (by omega) (by simp)]
   refine ⟨fun _ => ⟨by simp [vc_len], vc_k _ _ (by omega) (by simp), by simp [vc_len], vc_k _ _ (by omega) (by simp), _, c_r4Compare a b 0 (hL a (by simp)).sz (hL b (by simp)).sz, fun h => ?_, fun h => ?_⟩, fun h => absurd rfl h⟩
   · rw [beq_iff_eq.2 h]; exact ⟨_, _, _, c_rmaybe nt (true, true), rfl⟩
   · rw [beq_eq_false_iff_ne.2 h]; exact ⟨_, _, _, c_rmaybe nt (false, true), rfl⟩
 · obtain ⟨a, b, rfl⟩ := len2 h2
   iterate 9 refine ⟨fun h => absurd h (by decide), fun _ => ?_⟩
   have e2 : finP (reckV 8 op v sl nt [a, b] row) = elikeV nt a b := nz_fin (by
    show Nz (elikeV nt a b)
    unfold elikeV
    repeat' split
    all_goals first | exact nz_ok _ | exact nz_bad _)
   rw [e2, vc_0 _ (0 : Int) (by omega) (by simp), vc_0 _ (1 : Int) (by omega) (by simp), vc_2 _ (0 : Int) (by omega) (by simp), vc_2 _ (1 : Int) (by omega) (by simp)]
   unfold elikeV
   refine ⟨by simp [vc_len], vc_k0 _ _ (by omega) (by simp), fun _ => by simp [vc_len], fun _ => vc_k0 _ _ (by omega) (by simp), fun h => by rw [if_pos (show a.1 = 0 ∨ b.1 = 0 from h)]; rfl, fun h => ?_⟩
   rw [if_neg (show ¬ (a.1 = 0 ∨ b.1 = 0) from h)]
   refine ⟨by simp [vc_len], vc_k0 _ _ (by omega) (by simp), fun _ => by simp [vc_len], fun _ => vc_k0 _ _ (by omega) (by simp), fun h2 => by rw [if_pos (show ¬ a.1 = 2 ∨ ¬ b.1 = 2 from h2)]; rfl, fun h2 => ?_⟩
   rw [if_neg (show ¬ (¬ a.1 = 2 ∨ ¬ b.1 = 2) from h2)]
   refine ⟨by simp [vc_len], vc_k2 _ _ (by omega) (by simp), by simp [vc_len], vc_k2 _ _ (by omega) (by simp), _, c_rLike a.2.2 b.2.2 (hL a (by simp)).vs.2.2 (hL b (by simp)).vs.2.2, fun h => ?_, fun h => ?_⟩
   · rw [h]; exact ⟨_, _, _, c_rmaybe nt (true, true), rfl⟩
   · rw [Bool.eq_false_iff.2 h]; exact ⟨_, _, _, c_rmaybe nt (false, true), rfl⟩
 · match L, h2, hL, hl with
   | a :: R, h2, hL, hl =>
   iterate 7 refine ⟨fun h => absurd h (by decide), fun _ => ?_⟩
   have e2 : finP (reckV 6 op v sl nt (a :: R) row) = (truV (!((orF a (false, true) R).1 == nt)) (orF a (false, true) R).2, 0) := by
    show finP (turnV (inV a R true) nt, 0) = _
    rw [inV_orF, turn_tv]; rfl
   rw [e2, vc_len]
   have hln : ((a :: R).length : Int) = R.length + 1 := by simp
   have hlR : R.length ≤ 100000 := by simp at hl; omega
   refine ⟨fun _ => ?_, fun h => absurd rfl h⟩
   refine ⟨fun t i m => ∃ (K : Nat) (s : Bool × Bool), i = (K : Int) + 1 ∧ t = enc s.1 s.2 ∧ K ≤ R.length ∧ orF a (false, true) R = orF a s (R.drop K) ∧ m = R.length - K, ⟨_, 0, (false, true), rfl, rfl, by omega, rfl, rfl⟩, ?_⟩
   rintro m t i ⟨K, s, rfl, rfl, hK, ho, rfl⟩
   refine ⟨fun hi => ?_, fun hi => ?_⟩
   · rw [vc_vD _ (0 : Int) (by omega) (by simp), vc_vD (a :: R) ((K : Int) + 1) (by omega) (by omega)]
     have e3 : (a :: R).getD ((K : Int) + 1).toNat nul = R.getD K nul := by rw [show ((K : Int) + 1).toNat = K + 1 by omega]; rfl
     rw [e3]
     have hd : R.drop K = R.getD K nul :: R.drop (K + 1) := by
      rw [List.drop_eq_getElem_cons (by omega)]
      congr 1
      simp [List.getD_eq_getElem?_getD, show K < R.length by omega]
     have hm : Gd (R.getD K nul) := hL _ (by
      rw [List.getD_eq_getElem?_getD, List.getElem?_eq_getElem (by omega)]
      exact List.mem_cons_of_mem _ (List.getElem_mem _))
     refine ⟨by omega, vc_k _ _ (by omega) (by simp), by omega, vc_k _ _ (by omega) (by omega), _, c_rheld [61] a (R.getD K nul) (hL a (by simp)).sz hm.sz, _, c_reither s (heldT [61] a (R.getD K nul)), R.length - (K + 1), by omega, K + 1, orB s (heldT [61] a (R.getD K nul)), by rw [i64_in _ (by omega)]; omega, rfl, by omega, ?_, rfl⟩
     rw [ho, hd, orF]
   · have e : K = R.length := by omega
     rw [ho, e, List.drop_length, orF]
     exact ⟨_, _, _, c_rmaybe nt s, rfl⟩
 · obtain ⟨a, b, c, rfl⟩ := len3 h2
   iterate 8 refine ⟨fun h => absurd h (by decide), fun _ => ?_⟩
   have e2 : finP (reckV 7 op v sl nt [a, b, c] row) = (truV (!((andB (heldT [62, 61] a b) (heldT [60, 61] a c)).1 == nt)) (andB (heldT [62, 61] a b) (heldT [60, 61] a c)).2, 0) := by
    show finP (turnV (bothV (heldV [62, 61] a b) (heldV [60, 61] a c) false).1 nt, 0) = _
    rw [between_of]; rfl
   rw [e2, vc_vD _ (0 : Int) (by omega) (by simp), vc_vD _ (1 : Int) (by omega) (by simp), vc_vD _ (2 : Int) (by omega) (by simp)]
   exact ⟨fun _ => ⟨by simp [vc_len], vc_k _ _ (by omega) (by simp), by simp [vc_len], vc_k _ _ (by omega) (by simp), _, c_rheld [62, 61] a b (hL a (by simp)).sz (hL b (by simp)).sz, by simp [vc_len], vc_k _ _ (by omega) (by simp), by simp [vc_len], vc_k _ _ (by omega) (by simp), _, c_rheld [60, 61] a c (hL a (by simp)).sz (hL c (by simp)).sz,
    _, c_rboth (heldT [62, 61] a b) (heldT [60, 61] a c), _, _, _, c_rmaybe nt (andB (heldT [62, 61] a b) (heldT [60, 61] a c)), rfl⟩, fun h => absurd rfl h⟩
 · exact absurd rfl h9
 · iterate 4 refine ⟨fun h => absurd h (by decide), fun _ => ?_⟩
   have e2 : finP (reckV 10 op v sl nt L row) = resC op L := nz_fin (nz_res op L)
   rw [e2]
   exact ⟨fun _ => ⟨_, _, _, _, c_rCallV op (by unfold Sm; omega) L (by omega) (fun a ha => (hL a ha).vs), rfl⟩, fun h => absurd rfl h⟩
end
mutual
theorem c_RvX (row : List V3) (hr : ∀ a ∈ row, Gd a) : ∀ e : Xp, Fair e → RvR row e (evX row e)
 | .mk k op v tb nm sl nt ds args, h => by
  simp only [Fair] at h
  rw [evX]
  exact c_rtop k op v tb nm sl nt ds args row (evXs row args) (evXs_len row args) h.1 h.2.1 h.2.2.1 (gd_evs row hr args h.2.2.2) (c_RvXs row hr args h.2.2.2)
theorem c_RvXs (row : List V3) (hr : ∀ a ∈ row, Gd a) : ∀ l : List Xp, Fairs l → ∀ i (h : i < l.length), RvR row l[i] ((evXs row l).getD i (nul, 0))
 | [], _, i, h => absurd h (by simp)
 | e :: l, hf, 0, _ => by
  simp only [Fairs] at hf
  exact c_RvX row hr e hf.1
 | e :: l, hf, i + 1, h => by
  simp only [Fairs] at hf
  exact c_RvXs row hr l hf.2 i (by simpa using h)
end
end Go.Proofs.YtodjimecekaaeaaGreatDoor
namespace Go.Proofs.YtodjimecekaaeaaGreatDoor
open Go.RowKit Go.IntWalk
set_option linter.unusedSimpArgs false
set_option linter.unusedVariables false
mutual
def fairB : Xp → Bool
 | .mk k op v tb nm sl nt ds args => mayB v && (decide (v.2.2.length ≤ 200) && (decide (op.length ≤ 200) && fairsB args))
def fairsB : List Xp → Bool
 | [] => true
 | e :: r => fairB e && fairsB r
end
theorem drop_x (l : List Xp) (K : Nat) (h : K < l.length) : l.drop K = l[K] :: l.drop (K + 1) := List.drop_eq_getElem_cons h
theorem maxL : maxLen = 9223372036854775807 := by decide +kernel
theorem Xis.at : ∀ {l : List Xp}, Xis l → ∀ (i : Nat) (h : i < l.length), Xi l[i]
 | e :: l, hx, 0, _ => by simp only [Xis] at hx; exact hx.1
 | e :: l, hx, i + 1, h => by simp only [Xis] at hx; exact Xis.at hx.2 i (by simpa using h)
mutual
theorem c_fair : ∀ e : Xp, Xi e → FnC Tryz.prog 55 [xD e] (bD (fairB e))
 | .mk k op v tb nm sl nt ds args, h => by
  simp only [Xi] at h
  have ha := c_fairs args h.2.2.2
  have hl := h.2.2.1
  rw [maxL] at hl
  unfold xD
  simp only [Xp.cells]
  refine w55 k (bs op) v.1 v.2.1 (bs v.2.2) (bs tb) (bs nm) sl nt ds (xcs args) ⟨_, c_May v, ?_⟩
  rw [bs_size, bs_size, fairB]
  refine ⟨fun h => ?_, fun h => ?_⟩
  · have : (mayB v && (decide (v.2.2.length ≤ 200) && (decide (op.length ≤ 200) && fairsB args))) = false := by
     rcases h with (h | h) | h
     · rw [Bool.eq_false_iff.2 h]; rfl
     · rw [decide_eq_false (show ¬ v.2.2.length ≤ 200 by omega)]; simp
     · rw [decide_eq_false (show ¬ op.length ≤ 200 by omega)]; simp
    rw [this]
  have h1 : mayB v = true := Classical.not_not.1 fun e => h (.inl (.inl e))
  have h2 : v.2.2.length ≤ 200 := by
   by_cases e : v.2.2.length ≤ 200
   · exact e
   · exact absurd (.inl (.inr (by omega))) h
  have h3 : op.length ≤ 200 := by
   by_cases e : op.length ≤ 200
   · exact e
   · exact absurd (.inr (by omega)) h
  have e0 : (mayB v && (decide (v.2.2.length ≤ 200) && (decide (op.length ≤ 200) && fairsB args))) = fairsB args := by
   rw [h1, decide_eq_true h2, decide_eq_true h3]; rfl
  rw [e0, xcs_len]
  refine ⟨fun i m => ∃ K : Nat, i = K ∧ K ≤ args.length ∧ fairsB args = fairsB (args.drop K) ∧ m = args.length - K, ⟨_, 0, rfl, by omega, rfl, rfl⟩, ?_⟩
  rintro m i ⟨K, rfl, hK, hf, rfl⟩
  refine ⟨fun hi => ⟨by omega, xcs_sz _, xs_k _ _ (by omega) (by omega), ?_⟩, fun hi => ?_⟩
  · rw [xs_D _ _ (by omega) (by omega)]
    have e1 : args[(K : Int).toNat]'(by omega) = args[K]'(by omega) := by simp
    rw [e1, hf, drop_x args K (by omega), fairsB]
    refine ⟨_, ha K (by omega), fun h => ?_, fun h => ?_⟩
    · rw [Bool.eq_false_iff.2 h]; rfl
    · refine ⟨args.length - (K + 1), by omega, K + 1, by rw [i64_in _ (by omega)]; omega, by omega, ?_, rfl⟩
      rw [Classical.not_not.1 h]; rfl
  · rw [hf, List.drop_eq_nil_of_le (by omega)]; rfl
theorem c_fairs : ∀ l : List Xp, Xis l → ∀ i (h : i < l.length), FnC Tryz.prog 55 [xD l[i]] (bD (fairB l[i]))
 | [], _, i, h => absurd h (by simp)
 | e :: l, hx, 0, _ => by
  simp only [Xis] at hx
  exact c_fair e hx.1
 | e :: l, hx, i + 1, h => by
  simp only [Xis] at hx
  exact c_fairs l hx.2 i (by simpa using h)
end
def rowsB (row : List V3) : Bool := decide (row.length ≤ 64) && row.all fun v => mayB v && decide (v.2.2.length ≤ 200)
theorem c_rows (row : List V3) (hl : row.length ≤ maxLen) : FnC Tryz.prog 56 [.c (.vs (vc row))] (bD (rowsB row)) := by
 rw [maxL] at hl
 refine w56 (vc row) ?_
 rw [vc_len]
 unfold rowsB
 refine ⟨fun h => by rw [decide_eq_false (show ¬ row.length ≤ 64 by omega)]; rfl, fun h => ?_⟩
 rw [decide_eq_true (show row.length ≤ 64 by omega), Bool.true_and]
 refine ⟨fun i m => ∃ K : Nat, i = K ∧ K ≤ row.length ∧ (row.all fun v => mayB v && decide (v.2.2.length ≤ 200)) = ((row.drop K).all fun v => mayB v && decide (v.2.2.length ≤ 200)) ∧ m = row.length - K, ⟨_, 0, rfl, by omega, rfl, rfl⟩, ?_⟩
 rintro m i ⟨K, rfl, hK, hf, rfl⟩
 refine ⟨fun hi => ⟨by omega, vc_sz _, vc_k _ _ (by omega) (by omega), ?_⟩, fun hi => ?_⟩
 · have k2 := vc_k2 row (K : Int) (by omega) (by omega)
   rw [Int.toNat_natCast] at k2
   rw [vc_vD _ _ (by omega) (by omega), vc_2 _ _ (by omega) (by omega), Int.toNat_natCast, bs_size]
   have hd : row.drop K = row.getD K nul :: row.drop (K + 1) := by
    rw [List.drop_eq_getElem_cons (by omega)]
    congr 1
    simp [List.getD_eq_getElem?_getD, show K < row.length by omega]
   refine ⟨_, c_May _, fun _ => by omega, fun _ => vc_sz _, fun _ => k2, fun h => ?_, fun h => ?_⟩
   · rw [hf, hd, List.all_cons]
     have : (mayB (row.getD K nul) && decide ((row.getD K nul).2.2.length ≤ 200)) = false := by
      rcases h with h | h
      · rw [Bool.eq_false_iff.2 h]; rfl
      · rw [decide_eq_false (show ¬ (row.getD K nul).2.2.length ≤ 200 by omega), Bool.and_false]
     rw [this]; rfl
   · refine ⟨row.length - (K + 1), by omega, K + 1, by rw [i64_in _ (by omega)]; omega, by omega, ?_, rfl⟩
     rw [hf, hd, List.all_cons]
     have h1 : mayB (row.getD K nul) = true := Classical.not_not.1 fun e => h (.inl e)
     have h2 : (row.getD K nul).2.2.length ≤ 200 := by
      by_cases e : (row.getD K nul).2.2.length ≤ 200
      · exact e
      · exact absurd (.inr (by omega)) h
     rw [h1, decide_eq_true h2]; rfl
 · rw [hf, List.drop_eq_nil_of_le (by omega)]; rfl
theorem Xn_pos : ∀ e : Xp, 1 ≤ Xn e
 | .mk .. => by simp only [Xn]; omega
theorem Xns_len : ∀ l : List Xp, l.length ≤ Xns l
 | [] => by simp [Xns]
 | e :: l => by
  have := Xn_pos e
  have := Xns_len l
  simp only [Xns, List.length_cons]; omega
theorem Xns_split : ∀ (l : List Xp) (K : Nat), Xns l = Xns (l.take K) + Xns (l.drop K)
 | [], K => by simp [Xns]
 | e :: l, 0 => by simp [Xns]
 | e :: l, K + 1 => by
  have := Xns_split l K
  simp only [List.take_succ_cons, List.drop_succ_cons, Xns]; omega
theorem Xns_at : ∀ (l : List Xp) (i : Nat) (h : i < l.length), Xn l[i] ≤ Xns l
 | e :: l, 0, _ => by simp only [Xns]; show Xn e ≤ _; omega
 | e :: l, i + 1, h => by
  have := Xns_at l i (by simpa using h)
  simp only [Xns, List.getElem_cons_succ]; omega
mutual
theorem c_Count : ∀ e : Xp, Xn e ≤ 1048576 → FnC Tryz.prog 57 [xD e] (iD (Xn e : Nat))
 | .mk k op v tb nm sl nt ds args, h => by
  simp only [Xn] at h ⊢
  have ha := c_Counts args (by omega)
  have hl := Xns_len args
  unfold xD
  simp only [Xp.cells]
  refine w57 k (bs op) v.1 v.2.1 (bs v.2.2) (bs tb) (bs nm) sl nt ds (xcs args) ?_
  rw [xcs_len]
  refine ⟨fun s i m => ∃ K : Nat, i = K ∧ K ≤ args.length ∧ s = ((Xns (args.take K) + 1 : Nat) : Int) ∧ m = args.length - K, ⟨_, 0, rfl, by omega, rfl, rfl⟩, ?_⟩
  rintro m s i ⟨K, rfl, hK, rfl, rfl⟩
  refine ⟨fun hi => ⟨by omega, xcs_sz _, xs_k _ _ (by omega) (by omega), ?_⟩, fun hi => ?_⟩
  · rw [xs_D _ _ (by omega) (by omega)]
    have e1 : args[(K : Int).toNat]'(by omega) = args[K]'(by omega) := by simp
    rw [e1]
    have h1 := Xns_split args (K + 1)
    have h2 : Xns (args.take (K + 1)) = Xns (args.take K) + Xn args[K] := by
     have g1 := Xns_split (args.take (K + 1)) K
     rw [List.take_take, Nat.min_eq_left (by omega)] at g1
     have g2 : (args.take (K + 1)).drop K = [args[K]] := by
      rw [List.take_succ_eq_append_getElem (by omega), List.drop_append_of_le_length (by rw [List.length_take]; omega), List.drop_of_length_le (by rw [List.length_take]; omega)]; rfl
     rw [g2] at g1
     simp only [Xns] at g1
     omega
    refine ⟨_, ha K (by omega), args.length - (K + 1), by omega, K + 1, by rw [i64_in _ (by omega)]; omega, by omega, ?_, rfl⟩
    rw [i64_in _ (by omega), h2]; omega
  · have e : K = args.length := by omega
    rw [e, List.take_length]
theorem c_Counts : ∀ l : List Xp, Xns l ≤ 1048576 → ∀ i (h : i < l.length), FnC Tryz.prog 57 [xD l[i]] (iD (Xn l[i] : Nat))
 | [], _, i, h => absurd h (by simp)
 | e :: l, hx, 0, _ => by
  simp only [Xns] at hx
  exact c_Count e (by omega)
 | e :: l, hx, i + 1, h => by
  simp only [Xns] at hx
  exact c_Counts l (by omega) i (by simpa using h)
end
theorem c_Fair (e : Xp) (row : List V3) (xi : Xi e) (xn : Xn e ≤ 1048576) (hl : row.length ≤ maxLen) : FnC Tryz.prog 29 [xD e, .c (.vs (vc row))] (bD (fairB e && (rowsB row && decide (Xn e ≤ 100)))) := by
 have h1 := c_fair e xi
 have h2 := c_rows row hl
 have h3 := c_Count e xn
 obtain ⟨k, op, v, tb, nm, sl, nt, ds, args⟩ := e
 unfold xD at h1 h3 ⊢
 simp only [Xp.cells] at h1 h3 ⊢
 refine w29 k (bs op) v.1 v.2.1 (bs v.2.2) (bs tb) (bs nm) sl nt ds (xcs args) (vc row) ⟨_, h1, _, fun _ => h2, _, fun _ => h3, ?_⟩
 refine congrArg bD ?_
 have : decide (((Xn (.mk k op v tb nm sl nt ds args) : Nat) : Int) ≤ 100) = decide (Xn (.mk k op v tb nm sl nt ds args) ≤ 100) := by
  rw [decide_eq_decide]; omega
 rw [this]
 cases fairB (.mk k op v tb nm sl nt ds args) <;> cases rowsB row <;> rfl
theorem may_gd {v : V3} (h : mayB v = true) (hi : I64 v.2.1) (hl : v.2.2.length ≤ 200) : Gd v := ⟨may_can h, hi, by omega⟩
mutual
theorem fair_of : ∀ e : Xp, Xi e → fairB e = true → Xn e ≤ 100 → Fair e
 | .mk k op v tb nm sl nt ds args, xi, h, xn => by
  simp only [Xi] at xi
  simp only [fairB, Bool.and_eq_true, decide_eq_true_eq] at h
  simp only [Xn] at xn
  have := Xns_len args
  simp only [Fair]
  exact ⟨may_gd h.1 xi.1 h.2.1, by omega, by omega, fairs_of args xi.2.2.2 h.2.2.2 (by omega)⟩
theorem fairs_of : ∀ l : List Xp, Xis l → fairsB l = true → Xns l ≤ 100 → Fairs l
 | [], _, _, _ => trivial
 | e :: l, xi, h, xn => by
  simp only [Xis] at xi
  simp only [fairsB, Bool.and_eq_true] at h
  simp only [Xns] at xn
  simp only [Fairs]
  exact ⟨fair_of e xi.1 h.1 (by omega), fairs_of l xi.2 h.2 (by omega)⟩
end
theorem rows_gd {row : List V3} (h : rowsB row = true) (q : ∀ v ∈ row, ValOk v) : ∀ a ∈ row, Gd a := fun a ha => by
 unfold rowsB at h
 rw [Bool.and_eq_true] at h
 have := List.all_eq_true.1 h.2 a ha
 simp only [Bool.and_eq_true, decide_eq_true_eq] at this
 exact may_gd this.1 (q a ha).2.1 this.2
theorem c_rAll (l : List Xp) (row : List V3) (hl : l.length ≤ 1000000) (X : List (V3 × Int)) (hX : X.length = l.length) (hA : ∀ i (h : i < l.length), RvR row l[i] (X.getD i (nul, 0))) :
 FnC Tryz.prog 20 [.c (.vs (xcs l)), .c (.vs (vc row))] (.tup [bD (allV X).1, iD (allV X).2]) := by
 refine w20 (xcs l) (vc row) ?_
 rw [xcs_len]
 refine ⟨fun i m => ∃ K : Nat, i = K ∧ K ≤ l.length ∧ allV X = allV (X.drop K) ∧ m = l.length - K, ⟨_, 0, rfl, by omega, rfl, rfl⟩, ?_⟩
 rintro m i ⟨K, rfl, hK, ha, rfl⟩
 refine ⟨fun hi => ⟨by omega, xcs_sz _, xs_k _ _ (by omega) (by omega), ?_⟩, fun hi => ?_⟩
 · rw [xs_D _ _ (by omega) (by omega)]
   have h1 := hA K (by omega)
   have e : l[(K : Int).toNat]'(by omega) = l[K]'(by omega) := by simp
   have hd : X.drop K = X.getD K (nul, 0) :: X.drop (K + 1) := by
    rw [List.drop_eq_getElem_cons (by omega)]
    congr 1
    simp [List.getD_eq_getElem?_getD, show K < X.length by omega]
   obtain ⟨p1, p2⟩ := trN_tru (X.getD K (nul, 0)).1
   have imp := tru_imp (X.getD K (nul, 0)).1
   rw [e, ha, hd, allV]
   refine ⟨_, _, _, _, h1, fun h => by rw [if_pos h] <;> rfl, fun h => ⟨_, _, c_rTruth _, ?_⟩⟩
   rw [if_neg h, p1]
   refine ⟨fun h2 => by rw [if_pos (.inl h2)] <;> rfl, fun h2 => ?_⟩
   have h3 := Classical.not_not.1 h2
   rw [p2 h3]
   have eo := enc_one ((tru (X.getD K (nul, 0)).1).1, (tru (X.getD K (nul, 0)).1).2.1)
   refine ⟨fun h4 => ?_, fun h4 => ?_⟩
   · rw [if_pos (.inr fun h5 => h4 (eo.2 (by simp only []; rw [h5, imp h5]; rfl))), h3] <;> rfl
   · have h5 := eo.1 (Classical.not_not.1 h4)
     simp only [Bool.and_eq_true] at h5
     refine ⟨l.length - (K + 1), by omega, K + 1, by rw [i64_in _ (by omega)]; omega, by omega, ?_, rfl⟩
     rw [if_neg (fun e => e.elim (fun h => h2 h) (fun h => h h5.2))]
 · have e : K = l.length := by omega
   rw [ha, e, ← hX, List.drop_length]; rfl
end Go.Proofs.YtodjimecekaaeaaGreatDoor
