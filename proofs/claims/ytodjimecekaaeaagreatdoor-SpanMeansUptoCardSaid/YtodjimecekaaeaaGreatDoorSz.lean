/- Plain laws: the order of values and of rows of values is a total preorder. No condition. What package span and the document's answer for it make of one condition: own, column, plain, turned, held. Conditions: at most 2^30 parts. -/
import Derived.Test.YtodjimecekaaeaaGreatDoorEz1
import Derived.Test.YtodjimecekaaeaaGreatDoorEz2
namespace Go.Proofs.YtodjimecekaaeaaGreatDoor
open Go.RowKit
set_option linter.unusedSimpArgs false
set_option linter.unusedVariables false
theorem ob_refl : ∀ x : List UInt8, Lib.compareBytes x x = 0
 | [] => rfl
 | a :: x => by
  have h : ¬ a < a := fun h => absurd h (UInt8.lt_irrefl a)
  simp only [Lib.compareBytes, h, if_false]
  exact ob_refl x
theorem ob_swap : ∀ x y : List UInt8, Lib.compareBytes y x = -Lib.compareBytes x y
 | [], [] => rfl
 | [], _ :: _ => rfl
 | _ :: _, [] => rfl
 | a :: x, b :: y => by
  have ih := ob_swap x y
  simp only [Lib.compareBytes]
  by_cases h1 : a < b
  · have h2 : ¬ b < a := fun h => absurd (UInt8.lt_trans h1 h) (UInt8.lt_irrefl a)
    simp [h1, h2]
  · by_cases h2 : b < a
    · simp [h1, h2]
    · simp only [h1, h2, if_false]; exact ih
theorem ob_one : ∀ x y : List UInt8, -1 ≤ Lib.compareBytes x y ∧ Lib.compareBytes x y ≤ 1
 | [], [] => by simp [Lib.compareBytes]
 | [], _ :: _ => by simp [Lib.compareBytes]
 | _ :: _, [] => by simp [Lib.compareBytes]
 | a :: x, b :: y => by
  have ih := ob_one x y
  simp only [Lib.compareBytes]
  by_cases h1 : a < b
  · simp [h1]
  · by_cases h2 : b < a
    · simp [h1, h2]
    · simp only [h1, h2, if_false]; exact ih
theorem ob_u8 {a b : UInt8} (h1 : ¬ a < b) (h2 : ¬ b < a) : a = b := UInt8.le_antisymm (UInt8.not_lt.1 h2) (UInt8.not_lt.1 h1)
theorem ob_trans : ∀ x y z : List UInt8, Lib.compareBytes x y ≤ 0 → Lib.compareBytes y z ≤ 0 → Lib.compareBytes x z ≤ 0
 | [], _, [], _, _ => by simp [Lib.compareBytes]
 | [], _, _ :: _, _, _ => by simp [Lib.compareBytes]
 | _ :: _, [], _, h, _ => by simp [Lib.compareBytes] at h
 | _ :: _, _ :: _, [], _, h => by simp [Lib.compareBytes] at h
 | a :: x, b :: y, c :: z, hx, hy => by
  have ih := ob_trans x y z
  simp only [Lib.compareBytes] at hx hy ⊢
  by_cases h1 : a < c
  · simp [h1]
  · by_cases h2 : a < b
    · by_cases h3 : b < c
      · exact absurd (UInt8.lt_trans h2 h3) h1
      · by_cases h4 : c < b
        · simp [h3, h4] at hy
        · have := ob_u8 h3 h4
          subst this
          exact absurd h2 h1
    · by_cases h3 : b < a
      · simp [h2, h3] at hx
      · have := ob_u8 h2 h3
        subst this
        by_cases h4 : c < a
        · simp [h1, h4] at hy
        · simp only [h1, h4, if_false] at hy ⊢
          simp only [UInt8.lt_irrefl, if_false] at hx
          exact ih hx hy
structure FineO {α : Type} (f : α → α → Int) : Prop where
 refl : ∀ a, f a a = 0
 swap : ∀ a b, f b a = -f a b
 trans : ∀ a b c, f a b ≤ 0 → f b c ≤ 0 → f a c ≤ 0
 rng : ∀ a b, -1 ≤ f a b ∧ f a b ≤ 1
theorem oi_swap (x y : Int) : cmpI y x = -cmpI x y := by
 unfold cmpI
 split <;> split <;> first | omega | (split <;> omega)
theorem oi_trans (x y z : Int) (h1 : cmpI x y ≤ 0) (h2 : cmpI y z ≤ 0) : cmpI x z ≤ 0 := by
 unfold cmpI at *
 split <;> (try split) <;> (try split at h1) <;> (try split at h1) <;> (try split at h2) <;> (try split at h2) <;> omega
theorem fineO_int : FineO cmpI := ⟨fun x => by unfold cmpI; simp, oi_swap, oi_trans, fun x y => by unfold cmpI; split <;> (try split) <;> omega⟩
theorem fineO_bytes : FineO Lib.compareBytes := ⟨ob_refl, ob_swap, ob_trans, ob_one⟩
theorem FineO.map {α β : Type} {f : α → α → Int} (h : FineO f) (g : β → α) : FineO fun a b => f (g a) (g b) := ⟨fun _ => h.refl _, fun _ _ => h.swap _ _, fun _ _ _ => h.trans _ _ _, fun _ _ => h.rng _ _⟩
theorem fineO_zero (α : Type) : FineO fun (_ _ : α) => (0 : Int) := ⟨fun _ => rfl, fun _ _ => rfl, fun _ _ _ _ _ => by omega, fun _ _ => by omega⟩
theorem FineO.neg {α : Type} {f : α → α → Int} (h : FineO f) : FineO fun a b => -f a b := ⟨fun a => by rw [h.refl]; rfl, fun a b => by rw [h.swap a b], fun a b c h1 h2 => by
 have := h.trans c b a (by rw [h.swap b c]; exact h2) (by rw [h.swap a b]; exact h1)
 rw [h.swap a c] at this
 exact this, fun a b => by have := h.rng a b; omega⟩
theorem FineO.eq0 {α : Type} {f : α → α → Int} (h : FineO f) {a b c : α} (h1 : f a b = 0) : f a c = f b c := by
 have e1 := h.swap a b
 have t1 := h.trans a b c
 have t2 := h.trans b a c
 have t3 := h.trans c a b
 have t4 := h.trans c b a
 have s1 := h.swap a c
 have s2 := h.swap b c
 have r1 := h.rng a c
 have r2 := h.rng b c
 rcases Int.lt_trichotomy (f a c) 0 with g | g | g <;> rcases Int.lt_trichotomy (f b c) 0 with g' | g' | g' <;> omega
theorem FineO.next {α : Type} {f g : α → α → Int} (hf : FineO f) (hg : FineO g) : FineO fun a b => if f a b = 0 then g a b else f a b := by
 refine ⟨fun a => ?_, fun a b => ?_, fun a b c h1 h2 => ?_, fun a b => ?_⟩
 · rw [if_pos (hf.refl a)]; exact hg.refl a
 · have e := hf.swap a b
   have e2 := hg.swap a b
   by_cases h : f a b = 0
   · rw [if_pos h, if_pos (by omega), e2]
   · rw [if_neg h, if_neg (by omega), e]
 · by_cases e1 : f a b = 0
   · rw [hf.eq0 e1]
     rw [if_pos e1] at h1
     by_cases e2 : f b c = 0
     · rw [if_pos e2] at h2 ⊢
       exact hg.trans a b c h1 h2
     · rw [if_neg e2] at h2 ⊢
       exact h2
   · rw [if_neg e1] at h1
     by_cases e2 : f b c = 0
     · have e3 : f a c = f a b := by
        have := hf.swap c a
        have h3 := hf.eq0 e2 (c := a)
        have h4 := hf.swap b a
        omega
       rw [e3, if_neg e1]
       exact h1
     · rw [if_neg e2] at h2
       have t := hf.trans a b c h1 h2
       by_cases e3 : f a c = 0
       · exfalso
         have h3 := hf.eq0 e3 (c := b)
         have h4 := hf.swap b c
         omega
       · rw [if_neg e3]
         exact t
 · split
   · exact hg.rng a b
   · exact hf.rng a b
theorem FineO.lex {α : Type} (k : α → Int) (f : Int → α → α → Int) (hf : ∀ n, FineO (f n)) : FineO fun a b => if k a ≠ k b then cmpI (k a) (k b) else f (k a) a b := by
 have key : ∀ x y : Int, cmpI x y = 0 ↔ x = y := fun x y => by unfold cmpI; split <;> (try split) <;> omega
 have lt : ∀ x y : Int, cmpI x y ≤ 0 ↔ x ≤ y := fun x y => by unfold cmpI; split <;> (try split) <;> omega
 refine ⟨fun a => ?_, fun a b => ?_, fun a b c h1 h2 => ?_, fun a b => ?_⟩
 · simp [(hf _).refl]
 · by_cases e : k a = k b
   · simp only [e, ne_eq, not_true_eq_false, if_false]; exact (hf _).swap a b
   · simp only [ne_eq, e, Ne.symm e, not_false_eq_true, if_true]
     exact oi_swap _ _
 · by_cases e1 : k a = k b
   · by_cases e2 : k b = k c
     · simp only [e1, e2, ne_eq, not_true_eq_false, if_false] at h1 h2 ⊢
       exact (hf _).trans a b c h1 h2
     · simp only [e1, e2, ne_eq, not_false_eq_true, if_true] at h2 ⊢; exact h2
   · by_cases e2 : k b = k c
     · rw [← e2]
       simp only [e1, ne_eq, not_false_eq_true, if_true] at h1 ⊢; exact h1
     · simp only [e1, e2, ne_eq, not_false_eq_true, if_true] at h1 h2
       rw [lt] at h1 h2
       simp only [show ¬ k a = k c from by omega, ne_eq, not_false_eq_true, if_true]
       rw [lt]; omega
 · split
   · exact fineO_int.rng _ _
   · exact (hf _).rng _ _
theorem fineO_cmpV (coll : Int) : FineO fun a b => cmpV a b coll := by
 have h := FineO.lex (α := V3) (fun a => a.1) (fun k a b => if k = 1 then cmpI a.2.1 b.2.1 else if k = 2 then (if coll = 1 then Lib.compareBytes (foldL a.2.2) (foldL b.2.2) else Lib.compareBytes a.2.2 b.2.2) else if k = 3 then Lib.compareBytes a.2.2 b.2.2 else 0) (fun k => by
  by_cases h1 : k = 1
  · simp only [h1, if_true]; exact fineO_int.map (fun a : V3 => a.2.1)
  · by_cases h2 : k = 2
    · by_cases h3 : coll = 1
      · simp only [h2, h3, if_true, h1, if_false]; exact fineO_bytes.map (fun a : V3 => foldL a.2.2)
      · simp only [h2, h3, if_true, h1, if_false]; exact fineO_bytes.map (fun a : V3 => a.2.2)
    · by_cases h3 : k = 3
      · simp only [h1, h2, h3, if_false, if_true]; exact fineO_bytes.map (fun a : V3 => a.2.2)
      · simp only [h1, h2, h3, if_false]; exact fineO_zero _)
 exact h
abbrev K3 := Int × Int × Bool
end Go.Proofs.YtodjimecekaaeaaGreatDoor
namespace Go.Proofs.YtodjimecekaaeaaGreatDoor
open Go.RowKit Go.IntWalk
set_option linter.unusedSimpArgs false
set_option linter.unusedVariables false
theorem Xn_posS : ∀ e : Xp, 1 ≤ Xn e
 | .mk .. => by simp [Xn]
theorem Xns_lenS : ∀ l : List Xp, l.length ≤ Xns l
 | [] => by simp
 | e :: l => by
  have := Xn_posS e
  have := Xns_lenS l
  simp only [Xns, List.length_cons]
  omega
mutual
theorem c_own : ∀ e : Xp, Xn e ≤ 1073741824 → FnC Tryz.prog 25 [xD e] (xD e)
 | .mk k op v tb nm sl nt ds args, h => by
  simp only [Xn] at h
  have hlen := Xns_lenS args
  have ha := c_owns args (by omega)
  unfold xD
  simp only [Xp.cells]
  refine w25 k (bs op) v.1 v.2.1 (bs v.2.2) (bs tb) (bs nm) sl nt ds (xcs args) ?_
  rw [xcs_len]
  refine ⟨fun c i m => ∃ J : Nat, i = J ∧ J ≤ args.length ∧ c = xcs (args.take J) ∧ m = args.length - J, ⟨_, 0, rfl, by omega, rfl, rfl⟩, ?_⟩
  rintro m c i ⟨J, rfl, hJ, rfl, rfl⟩
  refine ⟨fun hi => ⟨by omega, xcs_sz args, xs_k args _ (by omega) hi, ?_⟩, fun hi => ?_⟩
  · rw [xs_D args _ (by omega) hi]
    simp only [Int.toNat_natCast]
    have hj : J < args.length := by omega
    have hc := ha J hj
    have ht : args.take (J + 1) = args.take J ++ [args[J]] := by
     rw [List.take_add_one, List.getElem?_eq_getElem hj]
     rfl
    cases hE : args[J] with
    | mk k' op' v' tb' nm' sl' nt' ds' args' =>
     rw [hE] at hc ht
     refine ⟨k', bs op', v'.1, v'.2.1, bs v'.2.2, bs tb', bs nm', sl', nt', ds', xcs args', hc, fun x24 e24 => ⟨?_, fun x25 e25 => ?_⟩⟩
     · rw [e24, xcs_len, List.length_take]
       simp only [List.length_cons, List.length_nil]
       omega
     · refine ⟨args.length - (J + 1), by omega, J + 1, by rw [i64_in _ (by omega)]; omega, by omega, ?_, rfl⟩
       rw [e25, e24, ht, xcs_app]
       rfl
  · have e : J = args.length := by omega
    rw [e, List.take_length]
theorem c_owns : ∀ l : List Xp, Xns l ≤ 1073741824 → ∀ (i : Nat) (h : i < l.length), FnC Tryz.prog 25 [xD l[i]] (xD l[i])
 | [], _, i, h => by simp at h
 | e :: l, hn, 0, _ => by
  simp only [Xns] at hn
  exact c_own e (by omega)
 | e :: l, hn, i + 1, h => by
  simp only [Xns] at hn
  exact c_owns l (by omega) i (by simpa using h)
end
def xk : Xp → Int | .mk k _ _ _ _ _ _ _ _ => k
def xv : Xp → V3 | .mk _ _ v _ _ _ _ _ _ => v
def xsl : Xp → Int | .mk _ _ _ _ _ sl _ _ _ => sl
def xnt : Xp → Bool | .mk _ _ _ _ _ _ nt _ _ => nt
def xop : Xp → List UInt8 | .mk _ op _ _ _ _ _ _ _ => op
def xargs : Xp → List Xp | .mk _ _ _ _ _ _ _ _ args => args
def colX (e : Xp) (s : Int) : Bool := if xk e == 2 then xsl e == s else false
def plainX (e : Xp) (fr : Int) : Bool := if xk e == 1 then true else (if (if xk e == 2 then decide (0 ≤ xsl e) else false) then decide (xsl e < fr) else false)
theorem c_column (e : Xp) (s : Int) : FnC Tryz.prog 82 [xD e, iD s] (bD (colX e s)) := by
 cases e with
 | mk k op v tb nm sl nt ds args => exact w82 k (bs op) v.1 v.2.1 (bs v.2.2) (bs tb) (bs nm) sl nt ds (xcs args) s rfl
theorem c_plain (e : Xp) (s : Int) : FnC Tryz.prog 83 [xD e, iD s] (bD (plainX e s)) := by
 cases e with
 | mk k op v tb nm sl nt ds args => exact w83 k (bs op) v.1 v.2.1 (bs v.2.2) (bs tb) (bs nm) sl nt ds (xcs args) s rfl
theorem c_rcolumn (e : Xp) (s : Int) : FnC Tryz.prog 51 [xD e, iD s] (bD (colX e s)) := by
 cases e with
 | mk k op v tb nm sl nt ds args => exact w51 k (bs op) v.1 v.2.1 (bs v.2.2) (bs tb) (bs nm) sl nt ds (xcs args) s rfl
theorem c_rplain (e : Xp) (s : Int) : FnC Tryz.prog 52 [xD e, iD s] (bD (plainX e s)) := by
 cases e with
 | mk k op v tb nm sl nt ds args => exact w52 k (bs op) v.1 v.2.1 (bs v.2.2) (bs tb) (bs nm) sl nt ds (xcs args) s rfl
def turnO (op : List UInt8) : List UInt8 := if op = [60] then [62] else if op = [60, 61] then [62, 61] else if op = [62] then [60] else if op = [62, 61] then [60, 61] else op
theorem c_sturned (op : List UInt8) : FnC Tryz.prog 84 [sD op] (sD (turnO op)) := by
 refine w84 (bs op) ?_
 (try simp only [mk_bs, bs_inj, bs_size, bs_toList, bs_append, byteAt_bs])
 (repeat' (first | with_reducible refine ⟨fun _ => ?_, fun _ => ?_⟩ | fail))
 all_goals (((try simp only [turnO] at *); (repeat' split) <;> (first | rfl | (exfalso; omega) | (simp_all; done) | (simp_all; omega))))
theorem c_rsturned (op : List UInt8) : FnC Tryz.prog 53 [sD op] (sD (turnO op)) := by
 refine w53 (bs op) ?_
 (try simp only [mk_bs, bs_inj, bs_size, bs_toList, bs_append, byteAt_bs])
 (repeat' (first | with_reducible refine ⟨fun _ => ?_, fun _ => ?_⟩ | fail))
 all_goals (((try simp only [turnO] at *); (repeat' split) <;> (first | rfl | (exfalso; omega) | (simp_all; done) | (simp_all; omega))))
def opB (op : List UInt8) : Bool := decide (op = [61] ∨ op = [60] ∨ op = [60, 61] ∨ op = [62] ∨ op = [62, 61])
def wBetween : List UInt8 := [98, 101, 116, 119, 101, 101, 110]
def h4 (op : List UInt8) (s fr : Int) : List Xp → List UInt8 × List Xp
 | [a, b] => if (colX a s && plainX b fr) = true then (op, [b]) else if (colX b s && plainX a fr) = true then (turnO op, [a]) else ([], [])
 | _ => ([], [])
def h5 (w : List UInt8) (s : Int) : List Xp → List UInt8 × List Xp
 | [a, b] => if (colX a s && (decide (xk b = 1) && decide ((xv b).1 ≠ 0))) = true then (w, [b]) else if (colX b s && (decide (xk a = 1) && decide ((xv a).1 ≠ 0))) = true then (w, [a]) else ([], [])
 | _ => ([], [])
def h7 (s fr : Int) : List Xp → List UInt8 × List Xp
 | [a, b, c] => if (colX a s && (plainX b fr && plainX c fr)) = true then (wBetween, [b, c]) else ([], [])
 | _ => ([], [])
theorem h4_ne (op : List UInt8) (s fr : Int) {l : List Xp} (h : l.length ≠ 2) : h4 op s fr l = ([], []) := by
 unfold h4
 split
 · exact absurd rfl h
 · rfl
theorem h5_ne (w : List UInt8) (s : Int) {l : List Xp} (h : l.length ≠ 2) : h5 w s l = ([], []) := by
 unfold h5
 split
 · exact absurd rfl h
 · rfl
theorem h7_ne (s fr : Int) {l : List Xp} (h : l.length ≠ 3) : h7 s fr l = ([], []) := by
 unfold h7
 split
 · exact absurd rfl h
 · rfl
def hX (w : List UInt8) (e : Xp) (s fr : Int) : List UInt8 × List Xp :=
 if xk e = 4 ∧ opB (xop e) = true then h4 (xop e) s fr (xargs e)
 else if xk e = 5 ∧ xnt e = false then h5 w s (xargs e)
 else if xk e = 7 ∧ xnt e = false then h7 s fr (xargs e)
 else ([], [])
theorem hX_mk (w : List UInt8) (k : Int) (op : List UInt8) (v : V3) (tb nm : List UInt8) (sl : Int) (nt ds : Bool) (args : List Xp) (s fr : Int) : hX w (.mk k op v tb nm sl nt ds args) s fr =
 if k = 4 ∧ opB op = true then h4 op s fr args else if k = 5 ∧ nt = false then h5 w s args else if k = 7 ∧ nt = false then h7 s fr args else ([], []) := rfl
theorem c_sheld (e : Xp) (s fr : Int) : FnC Tryz.prog 50 [xD e, iD s, iD fr] (.tup [sD (hX [105, 115] e s fr).1, .c (.vs (xcs (hX [105, 115] e s fr).2))]) := by
 cases e with
 | mk k op v tb nm sl nt ds args =>
  generalize hR : hX [105, 115] (.mk k op v tb nm sl nt ds args) s fr = R
  refine w50 k (bs op) v.1 v.2.1 (bs v.2.2) (bs tb) (bs nm) sl nt ds (xcs args) s fr ?_
  simp only [mk_bs, bs_inj, xcs_len]
  refine ⟨fun h => ?_, fun h => ⟨fun h2 => ?_, fun h2 => ⟨fun h3 => ?_, fun h3 => ?_⟩⟩⟩
  · obtain ⟨rfl, hl⟩ := h
    have hl : args.length = 2 := by omega
    match args, hl with
    | [a, b], _ =>
     refine ⟨fun ho => ?_, fun o1 => ⟨fun ho => ?_, fun o2 => ⟨fun ho => ?_, fun o3 => ⟨fun ho => ?_, fun o4 => ⟨fun ho => ?_, fun o5 => ?_⟩⟩⟩⟩⟩
     · subst ho
       have hd : R = (if (colX a s && plainX b fr) = true then ([61], [b]) else if (colX b s && plainX a fr) = true then (turnO [61], [a]) else ([], [])) := by
        rw [← hR]
        rw [hX_mk]
        rw [if_pos (by decide)]
        rfl
       refine ⟨by simp, xcs_sz _, by cases a; rfl, by simp, xcs_sz _, by cases b; rfl, colX a s, ?_, plainX b fr, fun _ => ?_, fun h x15 e15 => ?_, fun h => ⟨colX b s, ?_, plainX a fr, fun _ => ?_, fun h2 => ⟨_, c_sturned _, fun x18 e18 => ?_⟩, fun h2 => ?_⟩⟩
       · have := c_column a s
         cases a; exact this
       · have := c_plain b fr
         cases b; exact this
       · have e : x15 = xcs [b] := by rw [e15]; cases b; rfl
         rw [e, hd, if_pos (by simpa using h)]
       · have := c_column b s
         cases b; exact this
       · have := c_plain a fr
         cases a; exact this
       · have e : x18 = xcs [a] := by rw [e18]; cases a; rfl
         rw [e, hd, if_neg (by simpa using h), if_pos (by simpa using h2)]
       · rw [hd, if_neg (by simpa using h), if_neg (by simpa using h2)]
         rfl
     · subst ho
       have hd : R = (if (colX a s && plainX b fr) = true then ([60], [b]) else if (colX b s && plainX a fr) = true then (turnO [60], [a]) else ([], [])) := by
        rw [← hR]
        rw [hX_mk]
        rw [if_pos (by decide)]
        rfl
       refine ⟨by simp, xcs_sz _, by cases a; rfl, by simp, xcs_sz _, by cases b; rfl, colX a s, ?_, plainX b fr, fun _ => ?_, fun h x15 e15 => ?_, fun h => ⟨colX b s, ?_, plainX a fr, fun _ => ?_, fun h2 => ⟨_, c_sturned _, fun x18 e18 => ?_⟩, fun h2 => ?_⟩⟩
       · have := c_column a s
         cases a; exact this
       · have := c_plain b fr
         cases b; exact this
       · have e : x15 = xcs [b] := by rw [e15]; cases b; rfl
         rw [e, hd, if_pos (by simpa using h)]
       · have := c_column b s
         cases b; exact this
       · have := c_plain a fr
         cases a; exact this
       · have e : x18 = xcs [a] := by rw [e18]; cases a; rfl
         rw [e, hd, if_neg (by simpa using h), if_pos (by simpa using h2)]
       · rw [hd, if_neg (by simpa using h), if_neg (by simpa using h2)]
         rfl
     · subst ho
       have hd : R = (if (colX a s && plainX b fr) = true then ([60, 61], [b]) else if (colX b s && plainX a fr) = true then (turnO [60, 61], [a]) else ([], [])) := by
        rw [← hR]
        rw [hX_mk]
        rw [if_pos (by decide)]
        rfl
       refine ⟨by simp, xcs_sz _, by cases a; rfl, by simp, xcs_sz _, by cases b; rfl, colX a s, ?_, plainX b fr, fun _ => ?_, fun h x15 e15 => ?_, fun h => ⟨colX b s, ?_, plainX a fr, fun _ => ?_, fun h2 => ⟨_, c_sturned _, fun x18 e18 => ?_⟩, fun h2 => ?_⟩⟩
       · have := c_column a s
         cases a; exact this
       · have := c_plain b fr
         cases b; exact this
       · have e : x15 = xcs [b] := by rw [e15]; cases b; rfl
         rw [e, hd, if_pos (by simpa using h)]
       · have := c_column b s
         cases b; exact this
       · have := c_plain a fr
         cases a; exact this
       · have e : x18 = xcs [a] := by rw [e18]; cases a; rfl
         rw [e, hd, if_neg (by simpa using h), if_pos (by simpa using h2)]
       · rw [hd, if_neg (by simpa using h), if_neg (by simpa using h2)]
         rfl
     · subst ho
       have hd : R = (if (colX a s && plainX b fr) = true then ([62], [b]) else if (colX b s && plainX a fr) = true then (turnO [62], [a]) else ([], [])) := by
        rw [← hR]
        rw [hX_mk]
        rw [if_pos (by decide)]
        rfl
       refine ⟨by simp, xcs_sz _, by cases a; rfl, by simp, xcs_sz _, by cases b; rfl, colX a s, ?_, plainX b fr, fun _ => ?_, fun h x15 e15 => ?_, fun h => ⟨colX b s, ?_, plainX a fr, fun _ => ?_, fun h2 => ⟨_, c_sturned _, fun x18 e18 => ?_⟩, fun h2 => ?_⟩⟩
       · have := c_column a s
         cases a; exact this
       · have := c_plain b fr
         cases b; exact this
       · have e : x15 = xcs [b] := by rw [e15]; cases b; rfl
         rw [e, hd, if_pos (by simpa using h)]
       · have := c_column b s
         cases b; exact this
       · have := c_plain a fr
         cases a; exact this
       · have e : x18 = xcs [a] := by rw [e18]; cases a; rfl
         rw [e, hd, if_neg (by simpa using h), if_pos (by simpa using h2)]
       · rw [hd, if_neg (by simpa using h), if_neg (by simpa using h2)]
         rfl
     · subst ho
       have hd : R = (if (colX a s && plainX b fr) = true then ([62, 61], [b]) else if (colX b s && plainX a fr) = true then (turnO [62, 61], [a]) else ([], [])) := by
        rw [← hR]
        rw [hX_mk]
        rw [if_pos (by decide)]
        rfl
       refine ⟨by simp, xcs_sz _, by cases a; rfl, by simp, xcs_sz _, by cases b; rfl, colX a s, ?_, plainX b fr, fun _ => ?_, fun h x15 e15 => ?_, fun h => ⟨colX b s, ?_, plainX a fr, fun _ => ?_, fun h2 => ⟨_, c_sturned _, fun x18 e18 => ?_⟩, fun h2 => ?_⟩⟩
       · have := c_column a s
         cases a; exact this
       · have := c_plain b fr
         cases b; exact this
       · have e : x15 = xcs [b] := by rw [e15]; cases b; rfl
         rw [e, hd, if_pos (by simpa using h)]
       · have := c_column b s
         cases b; exact this
       · have := c_plain a fr
         cases a; exact this
       · have e : x18 = xcs [a] := by rw [e18]; cases a; rfl
         rw [e, hd, if_neg (by simpa using h), if_pos (by simpa using h2)]
       · rw [hd, if_neg (by simpa using h), if_neg (by simpa using h2)]
         rfl
     · have hd : R = ([], []) := by
        rw [← hR]
        rw [hX_mk]
        simp [opB, o1, o2, o3, o4, o5]
       rw [hd]
       rfl
  · obtain ⟨⟨rfl, hnt⟩, hl⟩ := h2
    have hl : args.length = 2 := by omega
    have hnt : nt = false := by simpa using hnt
    subst hnt
    match args, hl with
    | [a, b], _ =>
     have hd : R = (if (colX a s && (decide (xk b = 1) && decide ((xv b).1 ≠ 0))) = true then ([105, 115], [b]) else if (colX b s && (decide (xk a = 1) && decide ((xv a).1 ≠ 0))) = true then ([105, 115], [a]) else ([], [])) := by
      rw [← hR]
      rw [hX_mk]
      rw [if_neg (by simp), if_pos (by simp)]
      rfl
     refine ⟨fun i m => (i = 0 ∧ m = 2) ∨ (i = 1 ∧ m = 1 ∧ ¬ (colX a s && (decide (xk b = 1) && decide ((xv b).1 ≠ 0))) = true) ∨ (i = 2 ∧ m = 0 ∧ ¬ (colX a s && (decide (xk b = 1) && decide ((xv b).1 ≠ 0))) = true ∧ ¬ (colX b s && (decide (xk a = 1) && decide ((xv a).1 ≠ 0))) = true), ⟨2, .inl ⟨rfl, rfl⟩⟩, ?_⟩
     have q0 : (cellAt (xcs [a, b]) (IntKind.wrap .i64 (1 - 0)) 0).int = xk b := by cases b; rfl
     have q1 : (cellAt (xcs [a, b]) (IntKind.wrap .i64 (1 - 0)) 2).int = (xv b).1 := by cases b; rfl
     have q2 : (cellAt (xcs [a, b]) (IntKind.wrap .i64 (1 - 1)) 0).int = xk a := by cases a; rfl
     have q3 : (cellAt (xcs [a, b]) (IntKind.wrap .i64 (1 - 1)) 2).int = (xv a).1 := by cases a; rfl
     rintro m i (⟨rfl, rfl⟩ | ⟨rfl, rfl, n1⟩ | ⟨rfl, rfl, n1, n2⟩)
     · refine ⟨fun _ => ⟨by simp, xcs_sz _, by cases a; rfl, by simp [IntKind.wrap_i64], xcs_sz _, by cases b; rfl, colX a s, ?_, fun h x15 e15 => ?_, fun h => ⟨1, by omega, .inr (.inl ⟨by decide, rfl, ?_⟩)⟩⟩, fun h => absurd (by simp) h⟩
       · have := c_column a s
         cases a; exact this
       · have e : x15 = xcs [b] := by rw [e15]; cases b; rfl
         rw [q0, q1] at h
         rw [e, hd, if_pos]
         simpa [and_assoc] using h
       · rw [q0, q1] at h
         simpa [and_assoc] using h
     · refine ⟨fun _ => ⟨by simp, xcs_sz _, by cases b; rfl, by simp [IntKind.wrap_i64], xcs_sz _, by cases a; rfl, colX b s, ?_, fun h x15 e15 => ?_, fun h => ⟨0, by omega, .inr (.inr ⟨by decide, rfl, n1, ?_⟩)⟩⟩, fun h => absurd (by simp) h⟩
       · have := c_column b s
         cases b; exact this
       · have e : x15 = xcs [a] := by rw [e15]; cases a; rfl
         rw [q2, q3] at h
         rw [e, hd, if_neg n1, if_pos]
         simpa [and_assoc] using h
       · rw [q2, q3] at h
         simpa [and_assoc] using h
     · refine ⟨fun h => absurd h (by simp), fun _ => ?_⟩
       rw [hd, if_neg n1, if_neg n2]
       rfl
  · obtain ⟨⟨rfl, hnt⟩, hl⟩ := h3
    have hl : args.length = 3 := by omega
    have hnt : nt = false := by simpa using hnt
    subst hnt
    match args, hl with
    | [a, b, c], _ =>
     have hd : R = (if (colX a s && (plainX b fr && plainX c fr)) = true then (wBetween, [b, c]) else ([], [])) := by
      rw [← hR]
      rw [hX_mk]
      rw [if_neg (by simp), if_neg (by simp), if_pos (by simp)]
      rfl
     refine ⟨by simp, xcs_sz _, by cases a; rfl, colX a s, ?_, fun _ => by simp, fun _ => xcs_sz _, fun _ => by cases b; rfl, plainX b fr, fun _ => ?_, fun _ => by simp, fun _ => xcs_sz _, fun _ => by cases c; rfl, plainX c fr, fun _ => ?_, fun h => ⟨by simp, xcs_sz _, ?_⟩, fun h => ?_⟩
     · have := c_column a s
       cases a; exact this
     · have := c_plain b fr
       cases b; exact this
     · have := c_plain c fr
       cases c; exact this
     · rw [hd, if_pos (by simpa [and_assoc] using h)]
       rfl
     · rw [hd, if_neg (by simpa [and_assoc] using h)]
       rfl
  · have hd : R = ([], []) := by
     rw [← hR]
     rw [hX_mk]
     by_cases g : k = 4 ∧ opB op = true
     · rw [if_pos g]
       exact h4_ne _ _ _ fun hl => h ⟨g.1, by omega⟩
     · rw [if_neg g]
       by_cases g : k = 5 ∧ nt = false
       · rw [if_pos g]
         exact h5_ne _ _ fun hl => h2 ⟨⟨g.1, by simp [g.2]⟩, by omega⟩
       · rw [if_neg g]
         by_cases g : k = 7 ∧ nt = false
         · rw [if_pos g]
           exact h7_ne _ _ fun hl => h3 ⟨⟨g.1, by simp [g.2]⟩, by omega⟩
         · rw [if_neg g]
    rw [hd]
    rfl
end Go.Proofs.YtodjimecekaaeaaGreatDoor
namespace Go.Proofs.YtodjimecekaaeaaGreatDoor
open Go.RowKit Go.IntWalk
set_option linter.unusedSimpArgs false
set_option linter.unusedVariables false
theorem c_Holds (e : Xp) (s fr : Int) : FnC Tryz.prog 26 [xD e, iD s, iD fr] (.tup [sD (hX [61] e s fr).1, .c (.vs (xcs (hX [61] e s fr).2))]) := by
 cases e with
 | mk k op v tb nm sl nt ds args =>
  generalize hR : hX [61] (.mk k op v tb nm sl nt ds args) s fr = R
  refine w26 k (bs op) v.1 v.2.1 (bs v.2.2) (bs tb) (bs nm) sl nt ds (xcs args) s fr ?_
  simp only [mk_bs, bs_inj, xcs_len]
  refine ⟨fun h => ?_, fun h => ⟨fun h2 => ?_, fun h2 => ?_⟩⟩
  · obtain ⟨⟨rfl, hl⟩, ho⟩ := h
    have hl : args.length = 2 := by omega
    have hop : opB op = true := by
     unfold opB
     simpa [or_assoc] using ho
    match args, hl with
    | [a, b], _ =>
     have hd0 : R = (if (colX a s && plainX b fr) = true then (op, [b]) else if (colX b s && plainX a fr) = true then (turnO op, [a]) else ([], [])) := by
      rw [← hR]
      rw [hX_mk]
      rw [if_pos ⟨rfl, hop⟩]
      rfl
     refine ⟨by simp, xcs_sz _, by cases a; rfl, colX a s, ?_, fun _ => by simp, fun _ => xcs_sz _, fun _ => by cases b; rfl, plainX b fr, fun _ => ?_, fun h => ⟨by simp, xcs_sz _, ?_⟩, fun h => ⟨by simp, xcs_sz _, by cases b; rfl, colX b s, ?_, fun _ => by simp, fun _ => xcs_sz _, fun _ => by cases a; rfl, plainX a fr, fun _ => ?_, fun h2 => ⟨_, c_rsturned op, by simp, xcs_sz _, ?_⟩, fun h2 => ⟨fun g => absurd g.1.1 (by decide), fun _ => ?_⟩⟩⟩
     · have := c_rcolumn a s
       cases a; exact this
     · have := c_rplain b fr
       cases b; exact this
     · rw [hd0, if_pos (by simpa using h)]
       rfl
     · have := c_rcolumn b s
       cases b; exact this
     · have := c_rplain a fr
       cases a; exact this
     · rw [hd0, if_neg (by simpa using h), if_pos (by simpa using h2)]
       rfl
     · have hd : R = ([], []) := by rw [hd0, if_neg (by simpa using h), if_neg (by simpa using h2)]
       have n7 : ¬ (((4 : Int) = 7 ∧ ¬ nt = true) ∧ (([a, b] : List Xp).length : Int) = 3) := by simp
       refine ⟨fun h => absurd h n7, fun h => absurd h n7, fun h => absurd h n7, false, fun h => absurd h n7, fun h => absurd h.1 n7, fun h => absurd h.1 n7, fun h => absurd h.1 n7, false, fun h => absurd h.1 n7, fun h => absurd h.1.1 n7, fun h => absurd h.1.1 n7, fun h => absurd h.1.1 n7, false, fun h => absurd h.1.1 n7, fun h => absurd h.1.1.1 n7, fun _ => ?_⟩
       rw [hd]
       rfl
  · obtain ⟨⟨rfl, hnt⟩, hl⟩ := h2
    have hl : args.length = 2 := by omega
    have hnt : nt = false := by simpa using hnt
    subst hnt
    match args, hl with
    | [a, b], _ =>
     have hd0 : R = (if (colX a s && (decide (xk b = 1) && decide ((xv b).1 ≠ 0))) = true then ([61], [b]) else if (colX b s && (decide (xk a = 1) && decide ((xv a).1 ≠ 0))) = true then ([61], [a]) else ([], [])) := by
      rw [← hR]
      rw [hX_mk]
      rw [if_neg (by simp), if_pos (by simp)]
      rfl
     have q0 : (cellAt (xcs [a, b]) 1 0).int = xk b := by cases b; rfl
     have q1 : (cellAt (xcs [a, b]) 1 2).int = (xv b).1 := by cases b; rfl
     have q2 : (cellAt (xcs [a, b]) 0 0).int = xk a := by cases a; rfl
     have q3 : (cellAt (xcs [a, b]) 0 2).int = (xv a).1 := by cases a; rfl
     rw [q0, q1, q2, q3]
     refine ⟨by simp, xcs_sz _, by cases a; rfl, colX a s, ?_, fun _ => by simp, fun _ => xcs_sz _, fun _ => by cases b; rfl, fun _ => by simp, fun _ => xcs_sz _, fun _ => by cases b; rfl, fun h => ⟨by simp, xcs_sz _, ?_⟩, fun h => ⟨by simp, xcs_sz _, by cases b; rfl, colX b s, ?_, fun _ => by simp, fun _ => xcs_sz _, fun _ => by cases a; rfl, fun _ => by simp, fun _ => xcs_sz _, fun _ => by cases a; rfl, fun h2 => ⟨by simp, xcs_sz _, ?_⟩, fun h2 => ?_⟩⟩
     · have := c_rcolumn a s
       cases a; exact this
     · rw [hd0, if_pos (by simpa [and_assoc] using h)]
       rfl
     · have := c_rcolumn b s
       cases b; exact this
     · rw [hd0, if_neg (by simpa [and_assoc] using h), if_pos (by simpa [and_assoc] using h2)]
       rfl
     · have hd : R = ([], []) := by rw [hd0, if_neg (by simpa [and_assoc] using h), if_neg (by simpa [and_assoc] using h2)]
       have n7 : ¬ (((5 : Int) = 7 ∧ ¬ (false : Bool) = true) ∧ (([a, b] : List Xp).length : Int) = 3) := by simp
       refine ⟨fun h => absurd h n7, fun h => absurd h n7, fun h => absurd h n7, false, fun h => absurd h n7, fun h => absurd h.1 n7, fun h => absurd h.1 n7, fun h => absurd h.1 n7, false, fun h => absurd h.1 n7, fun h => absurd h.1.1 n7, fun h => absurd h.1.1 n7, fun h => absurd h.1.1 n7, false, fun h => absurd h.1.1 n7, fun h => absurd h.1.1.1 n7, fun _ => ?_⟩
       rw [hd]
       rfl
  · by_cases g7 : (k = 7 ∧ ¬ nt = true) ∧ (args.length : Int) = 3
    · obtain ⟨⟨rfl, hnt⟩, hl⟩ := g7
      have hl : args.length = 3 := by omega
      have hnt : nt = false := by simpa using hnt
      subst hnt
      match args, hl with
      | [a, b, c], _ =>
       have hd0 : R = (if (colX a s && (plainX b fr && plainX c fr)) = true then (wBetween, [b, c]) else ([], [])) := by
        rw [← hR]
        rw [hX_mk]
        rw [if_neg (by simp), if_neg (by simp), if_pos (by simp)]
        rfl
       refine ⟨fun _ => by simp, fun _ => xcs_sz _, fun _ => by cases a; rfl, colX a s, fun _ => ?_, fun _ => by simp, fun _ => xcs_sz _, fun _ => by cases b; rfl, plainX b fr, fun _ => ?_, fun _ => by simp, fun _ => xcs_sz _, fun _ => by cases c; rfl, plainX c fr, fun _ => ?_, fun h => ⟨by simp, xcs_sz _, ?_⟩, fun h => ?_⟩
       · have := c_rcolumn a s
         cases a; exact this
       · have := c_rplain b fr
         cases b; exact this
       · have := c_rplain c fr
         cases c; exact this
       · rw [hd0, if_pos (by simpa [and_assoc] using h)]
         rfl
       · rw [hd0, if_neg (by simpa [and_assoc] using h)]
         rfl
    · have n7 := g7
      have hd : R = ([], []) := by
       rw [← hR]
       rw [hX_mk]
       by_cases g : k = 4 ∧ opB op = true
       · rw [if_pos g]
         refine h4_ne _ _ _ fun hl => h ⟨⟨g.1, by omega⟩, ?_⟩
         have := g.2
         unfold opB at this
         simpa [or_assoc] using this
       · rw [if_neg g]
         by_cases g : k = 5 ∧ nt = false
         · rw [if_pos g]
           exact h5_ne _ _ fun hl => h2 ⟨⟨g.1, by simp [g.2]⟩, by omega⟩
         · rw [if_neg g]
           by_cases g : k = 7 ∧ nt = false
           · rw [if_pos g]
             exact h7_ne _ _ fun hl => g7 ⟨⟨g.1, by simp [g.2]⟩, by omega⟩
           · rw [if_neg g]
      refine ⟨fun h => absurd h n7, fun h => absurd h n7, fun h => absurd h n7, false, fun h => absurd h n7, fun h => absurd h.1 n7, fun h => absurd h.1 n7, fun h => absurd h.1 n7, false, fun h => absurd h.1 n7, fun h => absurd h.1.1 n7, fun h => absurd h.1.1 n7, fun h => absurd h.1.1 n7, false, fun h => absurd h.1.1 n7, fun h => absurd h.1.1.1 n7, fun _ => ?_⟩
      rw [hd]
      rfl
end Go.Proofs.YtodjimecekaaeaaGreatDoor
namespace Go.Proofs.YtodjimecekaaeaaGreatDoor
open Go.RowKit Go.IntWalk
set_option linter.unusedSimpArgs false
set_option linter.unusedVariables false
theorem hX_len (w : List UInt8) (e : Xp) (s fr : Int) : ((hX w e s fr).1 = wBetween → w ≠ wBetween → (hX w e s fr).2.length = 2 ∨ (hX w e s fr).2.length = 1) ∧ ((hX w e s fr).1 ≠ [] → 1 ≤ (hX w e s fr).2.length) := by
 have k4 : ∀ (op : List UInt8) (l : List Xp), ((h4 op s fr l).1 = wBetween → (h4 op s fr l).2.length = 2 ∨ (h4 op s fr l).2.length = 1) ∧ ((h4 op s fr l).1 ≠ [] → 1 ≤ (h4 op s fr l).2.length) := fun op l => by
  unfold h4
  repeat' split
  all_goals simp [wBetween]
 have k5 : ∀ (l : List Xp), ((h5 w s l).1 = wBetween → (h5 w s l).2.length = 2 ∨ (h5 w s l).2.length = 1) ∧ ((h5 w s l).1 ≠ [] → 1 ≤ (h5 w s l).2.length) := fun l => by
  unfold h5
  repeat' split
  all_goals simp [wBetween]
 have k7 : ∀ (l : List Xp), ((h7 s fr l).1 = wBetween → (h7 s fr l).2.length = 2 ∨ (h7 s fr l).2.length = 1) ∧ ((h7 s fr l).1 ≠ [] → 1 ≤ (h7 s fr l).2.length) := fun l => by
  unfold h7
  repeat' split
  all_goals simp [wBetween]
 unfold hX
 split
 · exact ⟨fun h _ => (k4 _ _).1 h, (k4 _ _).2⟩
 · split
   · exact ⟨fun h _ => (k5 _).1 h, (k5 _).2⟩
   · split
     · exact ⟨fun h _ => (k7 _).1 h, (k7 _).2⟩
     · simp [wBetween]
abbrev ES := List Xp × Bool × List Xp × Bool × List Xp
def endS (s fr : Int) (t : ES) (e : Xp) : ES :=
 if ((hX [61] e s fr).1 = [62] ∨ (hX [61] e s fr).1 = [62, 61]) ∧ t.1.length = 0 then ((hX [61] e s fr).2, (hX [61] e s fr).1 == [62], t.2.2)
 else if ((hX [61] e s fr).1 = [60] ∨ (hX [61] e s fr).1 = [60, 61]) ∧ t.2.2.1.length = 0 then (t.1, t.2.1, (hX [61] e s fr).2, (hX [61] e s fr).1 == [60], t.2.2.2.2)
 else if ((hX [61] e s fr).1 = wBetween ∧ t.1.length = 0) ∧ t.2.2.1.length = 0 then ((hX [61] e s fr).2.take 1, t.2.1, (hX [61] e s fr).2.drop 1, t.2.2.2.1, t.2.2.2.2)
 else (t.1, t.2.1, t.2.2.1, t.2.2.2.1, t.2.2.2.2 ++ [e])
theorem xcs_take : ∀ (l : List Xp) (n : Nat), (xcs l).take n = xcs (l.take n)
 | [], n => by simp [xcs]
 | e :: l, 0 => by simp [xcs]
 | e :: l, n + 1 => by simp [xcs, xcs_take l n]
theorem xcs_dropS : ∀ (l : List Xp) (n : Nat), (xcs l).drop n = xcs (l.drop n)
 | [], n => by simp [xcs]
 | e :: l, 0 => by simp
 | e :: l, n + 1 => by simp [xcs, xcs_dropS l n]
theorem endS_out (s fr : Int) (t : ES) (e : Xp) : (endS s fr t e).2.2.2.2.length ≤ t.2.2.2.2.length + 1 := by
 unfold endS
 repeat' split
 all_goals simp
def endsX (s fr : Int) (t : ES) (l : List Xp) : ES := l.foldl (endS s fr) t
theorem endsX_snoc (s fr : Int) (t : ES) (l : List Xp) (J : Nat) (h : J < l.length) : endsX s fr t (l.take (J + 1)) = endS s fr (endsX s fr t (l.take J)) l[J] := by
 unfold endsX
 rw [List.take_add_one, List.getElem?_eq_getElem h, List.foldl_append]
 rfl
theorem endsX_out (s fr : Int) (t : ES) : ∀ l : List Xp, (endsX s fr t l).2.2.2.2.length ≤ t.2.2.2.2.length + l.length := fun l => by
 induction l generalizing t with
 | nil => simp [endsX]
 | cons e l ih =>
  have h1 := ih (endS s fr t e)
  have h2 := endS_out s fr t e
  have h3 : endsX s fr t (e :: l) = endsX s fr (endS s fr t e) l := rfl
  rw [h3, List.length_cons]
  omega
theorem xs_one (l : List Xp) (i : Int) (h0 : 0 ≤ i) (h : i < l.length) : [[CV.v (.int .i64 (cellAt (xcs l) i 0).int), .v (.string (cellAt (xcs l) i 1).str), .v (.int .i64 (cellAt (xcs l) i 2).int), .v (.int .i64 (cellAt (xcs l) i 3).int), .v (.string (cellAt (xcs l) i 4).str), .v (.string (cellAt (xcs l) i 5).str), .v (.string (cellAt (xcs l) i 6).str), .v (.int .i64 (cellAt (xcs l) i 7).int), .v (.bool (cellAt (xcs l) i 8).bool), .v (.bool (cellAt (xcs l) i 9).bool), .vs (cellAt (xcs l) i 10).els]] = xcs [l[i.toNat]'(by omega)] := by
 simp only [cellAt]
 rw [xcs_get l _ (by omega)]
 cases l[i.toNat]'(by omega)
 simp only [xcs, Xp.cells]; rfl
theorem c_rends (Eq Lo Hi : List Xp) (lo ho : Bool) (l : List Xp) (s fr : Int) (hl : l.length ≤ 1073741824) : FnC Tryz.prog 27 [.agg [.vs (xcs Eq), .vs (xcs Lo), .vs (xcs Hi), .v (.bool lo), .v (.bool ho)], .c (.vs (xcs l)), iD s, iD fr]
 (.tup [.agg [.vs (xcs Eq), .vs (xcs (endsX s fr (Lo, lo, Hi, ho, []) l).1), .vs (xcs (endsX s fr (Lo, lo, Hi, ho, []) l).2.2.1), .v (.bool (endsX s fr (Lo, lo, Hi, ho, []) l).2.1), .v (.bool (endsX s fr (Lo, lo, Hi, ho, []) l).2.2.2.1)], .c (.vs (xcs (endsX s fr (Lo, lo, Hi, ho, []) l).2.2.2.2))]) := by
 refine w27 (xcs Eq) (xcs Lo) (xcs Hi) lo ho (xcs l) s fr ?_
 rw [xcs_len]
 refine ⟨fun a b i c d o m => ∃ J : Nat, i = J ∧ J ≤ l.length ∧ m = l.length - J ∧ ∃ t : ES, t = endsX s fr (Lo, lo, Hi, ho, []) (l.take J) ∧ a = xcs t.1 ∧ b = t.2.1 ∧ c = xcs t.2.2.1 ∧ d = t.2.2.2.1 ∧ o = xcs t.2.2.2.2, ⟨_, 0, rfl, by omega, rfl, _, rfl, rfl, rfl, rfl, rfl, rfl⟩, ?_⟩
 rintro m a b i c d o ⟨J, rfl, hJ, rfl, t, ht, rfl, rfl, rfl, rfl, rfl⟩
 have hout := endsX_out s fr (Lo, lo, Hi, ho, []) (l.take J)
 rw [← ht, List.length_take] at hout
 simp only [List.length_nil] at hout
 refine ⟨fun hi => ⟨by omega, xcs_sz l, xs_k l _ (by omega) hi, ?_⟩, fun hi => ?_⟩
 · have hj : J < l.length := by omega
   have hsn := endsX_snoc s fr (Lo, lo, Hi, ho, []) l J hj
   rw [← ht] at hsn
   rw [xs_D l _ (by omega) hi, xs_one l _ (by omega) hi, i64_in _ (by omega)]
   simp only [Int.toNat_natCast]
   obtain ⟨hw, hz⟩ := hX_len [61] l[J] s fr
   refine ⟨_, _, c_Holds l[J] s fr, ?_⟩
   simp only [mk_bs, bs_inj, xcs_len]
   have step : ∀ t' : ES, t' = endS s fr t l[J] → ∃ k', k' < l.length - J ∧ ∃ J' : Nat, ((J : Int) + 1 = J') ∧ J' ≤ l.length ∧ k' = l.length - J' ∧ ∃ t2 : ES, t2 = endsX s fr (Lo, lo, Hi, ho, []) (l.take J') ∧ xcs t'.1 = xcs t2.1 ∧ t'.2.1 = t2.2.1 ∧ xcs t'.2.2.1 = xcs t2.2.2.1 ∧ t'.2.2.2.1 = t2.2.2.2.1 ∧ xcs t'.2.2.2.2 = xcs t2.2.2.2.2 := fun t' e =>
    ⟨l.length - (J + 1), by omega, J + 1, by omega, by omega, rfl, t', by rw [e, hsn], rfl, rfl, rfl, rfl, rfl⟩
   unfold endS at step
   refine ⟨fun h1 => ?_, fun h1 => ⟨fun h2 => ?_, fun h2 => ⟨fun h3 => ?_, fun h3 => ?_⟩⟩⟩
   · have h1 : ((hX [61] l[J] s fr).1 = [62] ∨ (hX [61] l[J] s fr).1 = [62, 61]) ∧ t.1.length = 0 := ⟨h1.1, by omega⟩
     have := step ((hX [61] l[J] s fr).2, (hX [61] l[J] s fr).1 == [62], t.2.2) (by rw [if_pos h1])
     simpa only [bs_toList] using this
   · have n1 : ¬ (((hX [61] l[J] s fr).1 = [62] ∨ (hX [61] l[J] s fr).1 = [62, 61]) ∧ t.1.length = 0) := fun g => h1 ⟨g.1, by omega⟩
     have h2 : ((hX [61] l[J] s fr).1 = [60] ∨ (hX [61] l[J] s fr).1 = [60, 61]) ∧ t.2.2.1.length = 0 := ⟨h2.1, by omega⟩
     have := step (t.1, t.2.1, (hX [61] l[J] s fr).2, (hX [61] l[J] s fr).1 == [60], t.2.2.2.2) (by rw [if_neg n1, if_pos h2])
     simpa only [bs_toList] using this
   · have n1 : ¬ (((hX [61] l[J] s fr).1 = [62] ∨ (hX [61] l[J] s fr).1 = [62, 61]) ∧ t.1.length = 0) := fun g => h1 ⟨g.1, by omega⟩
     have n2 : ¬ (((hX [61] l[J] s fr).1 = [60] ∨ (hX [61] l[J] s fr).1 = [60, 61]) ∧ t.2.2.1.length = 0) := fun g => h2 ⟨g.1, by omega⟩
     have h3 : ((hX [61] l[J] s fr).1 = wBetween ∧ t.1.length = 0) ∧ t.2.2.1.length = 0 := ⟨⟨h3.1.1, by omega⟩, by omega⟩
     have h1l := hz (by rw [h3.1.1]; simp [wBetween])
     have := step ((hX [61] l[J] s fr).2.take 1, t.2.1, (hX [61] l[J] s fr).2.drop 1, t.2.2.2.1, t.2.2.2.2) (by rw [if_neg n1, if_neg n2, if_pos h3])
     refine ⟨by omega, xcs_sz _, by omega, xcs_sz _, ?_⟩
     rw [show ((1 : Int)).toNat = 1 from rfl, xcs_take, xcs_dropS]
     exact this
   · have n1 : ¬ (((hX [61] l[J] s fr).1 = [62] ∨ (hX [61] l[J] s fr).1 = [62, 61]) ∧ t.1.length = 0) := fun g => h1 ⟨g.1, by omega⟩
     have n2 : ¬ (((hX [61] l[J] s fr).1 = [60] ∨ (hX [61] l[J] s fr).1 = [60, 61]) ∧ t.2.2.1.length = 0) := fun g => h2 ⟨g.1, by omega⟩
     have n3 : ¬ (((hX [61] l[J] s fr).1 = wBetween ∧ t.1.length = 0) ∧ t.2.2.1.length = 0) := fun g => h3 ⟨⟨g.1.1, by omega⟩, by omega⟩
     have := step (t.1, t.2.1, t.2.2.1, t.2.2.2.1, t.2.2.2.2 ++ [l[J]]) (by rw [if_neg n1, if_neg n2, if_neg n3])
     refine ⟨by omega, xcs_sz l, xs_k l _ (by omega) hi, fun x16 e16 => ⟨?_, fun x17 e17 => ?_⟩⟩
     · rw [e16, xcs_len]
       simp only [List.length_cons, List.length_nil]
       omega
     · rw [e17, e16, ← xcs_app]
       exact this
 · have e : J = l.length := by omega
   rw [e, List.take_length] at ht
   rw [ht]
end Go.Proofs.YtodjimecekaaeaaGreatDoor
namespace Go.Proofs.YtodjimecekaaeaaGreatDoor
open Go.RowKit Go.IntWalk
set_option linter.unusedSimpArgs false
set_option linter.unusedVariables false
def kc (K : List K3) : List (List CV) := K.map fun k => [.v (.int .i64 k.1), .v (.int .i64 k.2.1), .v (.bool k.2.2)]
abbrev knul : K3 := (0, 0, false)
theorem kc_len (K : List K3) : (kc K).length = K.length := by simp [kc]
theorem kc_sz (K : List K3) : ∀ el ∈ kc K, el.length = 3 := by
 intro el h
 simp only [kc, List.mem_map] at h
 obtain ⟨v, _, rfl⟩ := h
 rfl
theorem kc_get (K : List K3) (i : Nat) (h : i < K.length) : (kc K).getD i [] = [.v (.int .i64 (K.getD i knul).1), .v (.int .i64 (K.getD i knul).2.1), .v (.bool (K.getD i knul).2.2)] := by simp [kc, h]
theorem kc_k (K : List K3) (i : Int) (h0 : 0 ≤ i) (h : i < K.length) : [4, 4, 9] = ((((kc K).getD i.toNat []).drop 0).take 3).map kindC := by rw [kc_get K _ (by omega)]; rfl
theorem kc_k0 (K : List K3) (i : Int) (h0 : 0 ≤ i) (h : i < K.length) : [4] = ((((kc K).getD i.toNat []).drop 0).take 1).map kindC := by rw [kc_get K _ (by omega)]; rfl
theorem kc_k1 (K : List K3) (i : Int) (h0 : 0 ≤ i) (h : i < K.length) : [4] = ((((kc K).getD i.toNat []).drop 1).take 1).map kindC := by rw [kc_get K _ (by omega)]; rfl
theorem kc_0 (K : List K3) (i : Int) (h0 : 0 ≤ i) (h : i < K.length) : (cellAt (kc K) i 0).int = (K.getD i.toNat knul).1 := by simp only [cellAt]; rw [kc_get K _ (by omega)]; rfl
theorem kc_1 (K : List K3) (i : Int) (h0 : 0 ≤ i) (h : i < K.length) : (cellAt (kc K) i 1).int = (K.getD i.toNat knul).2.1 := by simp only [cellAt]; rw [kc_get K _ (by omega)]; rfl
def exN (s fr : Int) (l : List Xp) : Nat := l.findIdx fun e => decide ((hX [61] e s fr).1 = [61])
abbrev es0 (l : List Xp) : ES := ([], false, [], false, l)
def spX (fr : Int) : List K3 → List Xp → List Xp → List Xp × ES
 | [], Eq, l => (Eq, es0 l)
 | k :: ks, Eq, l => if k.2.1 ≠ 0 ∨ k.1 < 0 then (Eq, es0 l) else
  match l[exN (IntKind.wrap .i64 (fr + k.1)) fr l]? with
  | some e => spX fr ks (Eq ++ (hX [61] e (IntKind.wrap .i64 (fr + k.1)) fr).2.take 1) (l.take (exN (IntKind.wrap .i64 (fr + k.1)) fr l) ++ l.drop (exN (IntKind.wrap .i64 (fr + k.1)) fr l + 1))
  | none => (Eq, endsX (IntKind.wrap .i64 (fr + k.1)) fr ([], false, [], false, []) l)
def resO (R : List Xp × ES) : DV := .tup [.agg [.vs (xcs R.1), .vs (xcs R.2.1), .vs (xcs R.2.2.2.1), .v (.bool R.2.2.1), .v (.bool R.2.2.2.2.1)], .c (.vs (xcs R.2.2.2.2.2))]
theorem spX_step (fr : Int) (K : List K3) (Eq l : List Xp) (J : Nat) (h : J < K.length) (hk : ¬ ((K.getD J knul).2.1 ≠ 0 ∨ (K.getD J knul).1 < 0)) : spX fr (K.drop J) Eq l =
 match l[exN (IntKind.wrap .i64 (fr + (K.getD J knul).1)) fr l]? with
  | some e => spX fr (K.drop (J + 1)) (Eq ++ (hX [61] e (IntKind.wrap .i64 (fr + (K.getD J knul).1)) fr).2.take 1) (l.take (exN (IntKind.wrap .i64 (fr + (K.getD J knul).1)) fr l) ++ l.drop (exN (IntKind.wrap .i64 (fr + (K.getD J knul).1)) fr l + 1))
  | none => (Eq, endsX (IntKind.wrap .i64 (fr + (K.getD J knul).1)) fr ([], false, [], false, []) l) := by
 have e : K.drop J = K.getD J knul :: K.drop (J + 1) := by
  rw [List.drop_eq_getElem_cons h, List.getD_eq_getElem?_getD, List.getElem?_eq_getElem h]
  rfl
 rw [e, spX, if_neg hk]
theorem spX_stop (fr : Int) (K : List K3) (Eq l : List Xp) (J : Nat) (h : J < K.length) (hk : (K.getD J knul).2.1 ≠ 0 ∨ (K.getD J knul).1 < 0) : spX fr (K.drop J) Eq l = (Eq, es0 l) := by
 have e : K.drop J = K.getD J knul :: K.drop (J + 1) := by
  rw [List.drop_eq_getElem_cons h, List.getD_eq_getElem?_getD, List.getElem?_eq_getElem h]
  rfl
 rw [e, spX, if_pos hk]
theorem take1 : ∀ (T : List Xp) (h : 0 < T.length), [T[0]] = T.take 1
 | [], h => by simp at h
 | t :: T, _ => by simp
theorem c_rspOf (l : List Xp) (fr : Int) (K : List K3) (hl : l.length ≤ 1073741824) (hK : K.length ≤ 1073741824) : FnC Tryz.prog 9 [.c (.vs (xcs l)), iD fr, .c (.vs (kc K))] (resO (spX fr K [] l)) := by
 refine w9 (xcs l) fr (kc K) ?_
 rw [kc_len]
 refine ⟨fun a b i m => ∃ J : Nat, i = J ∧ J ≤ K.length ∧ m = K.length - J ∧ ∃ Eq r : List Xp, a = xcs Eq ∧ b = xcs r ∧ Eq.length ≤ J ∧ r.length ≤ l.length ∧ spX fr (K.drop J) Eq r = spX fr K [] l, ⟨_, 0, rfl, by omega, rfl, [], l, rfl, rfl, by simp, by omega, rfl⟩, ?_⟩
 rintro m a b i ⟨J, rfl, hJ, rfl, Eq, r, rfl, rfl, hE, hr, hof⟩
 refine ⟨fun hi => ?_, fun hi => ?_⟩
 · have hj : J < K.length := by omega
   refine ⟨by omega, kc_sz K, kc_k1 K _ (by omega) hi, fun _ => by omega, fun _ => kc_sz K, fun _ => kc_k0 K _ (by omega) hi, ?_⟩
   rw [kc_0 K _ (by omega) hi, kc_1 K _ (by omega) hi, Int.toNat_natCast]
   refine ⟨fun hst => ?_, fun hst => ⟨by omega, kc_sz K, kc_k0 K _ (by omega) hi, ?_⟩⟩
   · rw [← hof, spX_stop fr K Eq r J hj hst]
     rfl
   · have hstep := spX_step fr K Eq r J hj hst
     rw [hof] at hstep
     generalize hs : IntKind.wrap .i64 (fr + (K.getD J knul).1) = s at *
     have hfind : ∀ p, p < exN s fr r → ∀ (h : p < r.length), (hX [61] r[p] s fr).1 ≠ [61] := fun p hp h => by
      have := List.not_of_lt_findIdx hp
      simpa using this
     have hat : ∀ (h : exN s fr r < r.length), (hX [61] r[exN s fr r] s fr).1 = [61] := fun h => by
      have := List.findIdx_getElem (xs := r) (p := fun e => decide ((hX [61] e s fr).1 = [61])) (w := h)
      show (hX [61] (r[List.findIdx (fun e => decide ((hX [61] e s fr).1 = [61])) r]'h) s fr).1 = [61]
      simpa using this
     have hle : exN s fr r ≤ r.length := List.findIdx_le_length
     refine ⟨fun c at_ q m => ∃ Q : Nat, q = Q ∧ m = r.length + 1 - Q ∧ ((at_ = -1 ∧ c = xcs Eq ∧ Q ≤ exN s fr r) ∨ (exN s fr r < r.length ∧ at_ = (exN s fr r : Nat) ∧ Q = exN s fr r + 1 ∧ ∀ (h : exN s fr r < r.length), c = xcs (Eq ++ (hX [61] r[exN s fr r] s fr).2.take 1))), ⟨_, 0, rfl, rfl, .inl ⟨rfl, rfl, by omega⟩⟩, ?_⟩
     rintro m c at_ q ⟨Q, rfl, rfl, hc⟩
     rw [xcs_len]
     refine ⟨fun hq => ?_, fun hq => ⟨fun hneg => ?_, fun hpos => ?_⟩⟩
     · rcases hc with ⟨rfl, rfl, hQ⟩ | ⟨_, rfl, _, _⟩
       rotate_left
       · omega
       have hq1 : Q < r.length := by omega
       refine ⟨by omega, xcs_sz r, xs_k r _ (by omega) (by omega), ?_⟩
       rw [xs_D r _ (by omega) (by omega), i64_in _ (by omega)]
       simp only [Int.toNat_natCast]
       refine ⟨_, _, c_Holds r[Q] s fr, ?_⟩
       simp only [mk_bs, bs_inj, xcs_len]
       have hlen := (hX_len [61] r[Q] s fr).2
       refine ⟨fun h61 x11 e11 => ?_, fun h61 => ⟨r.length + 1 - (Q + 1), by omega, Q + 1, by omega, rfl, .inl ⟨by simp, by simp, ?_⟩⟩⟩
       · have hQe : Q = exN s fr r := by
          by_cases c1 : Q < exN s fr r
          · exact absurd h61 (hfind Q c1 hq1)
          · omega
         have h1l := hlen (by rw [h61]; simp)
         subst e11
         refine ⟨by simp only [List.length_nil]; omega, fun x12 e12 => ⟨by omega, xcs_sz _, xs_k _ _ (by omega) (by omega), fun x13 e13 => ?_⟩⟩
         rw [xs_one _ _ (by omega) (by omega)] at e13
         rw [List.nil_append] at e12
         subst e12 e13
         refine ⟨by rw [xcs_len, xcs_len]; simp only [List.length_cons, List.length_nil]; omega, fun x14 e14 => ⟨r.length + 1 - (Q + 1), by omega, Q + 1, by omega, rfl, .inr ⟨by omega, by omega, by omega, fun h => ?_⟩⟩⟩
         rw [e14, ← xcs_app]
         congr 2
         subst hQe
         exact take1 _ _
       · by_cases c1 : Q = exN s fr r
         · exact absurd (by subst c1; exact hat hq1) h61
         · omega
     · rcases hc with ⟨rfl, rfl, hQ⟩ | ⟨_, rfl, _, _⟩
       rotate_left
       · omega
       have hn : exN s fr r = r.length := by omega
       rw [hn, List.getElem?_eq_none (by omega)] at hstep
       refine ⟨_, _, _, _, _, _, c_rends Eq [] [] false false r s fr (by omega), ?_⟩
       rw [hstep]
       rfl
     · rcases hc with ⟨rfl, rfl, hQ⟩ | ⟨hlt, rfl, rfl, hcc⟩
       · omega
       have hcc := hcc hlt
       subst hcc
       rw [List.getElem?_eq_getElem hlt] at hstep
       intro x9 e9
       subst e9
       rw [i64_in _ (by omega)]
       have t1 : ((exN s fr r : Nat) : Int).toNat = exN s fr r := Int.toNat_natCast _
       have t2 : (((exN s fr r : Nat) : Int) + 1).toNat = exN s fr r + 1 := by omega
       rw [t1, t2, xcs_take, xcs_dropS, xcs_len, xcs_len]
       have l1 : (r.take (exN s fr r)).length = exN s fr r := by rw [List.length_take]; omega
       have l2 : (r.drop (exN s fr r + 1)).length = r.length - (exN s fr r + 1) := List.length_drop
       refine ⟨by omega, xcs_sz r, xcs_sz _, by simp only [List.length_nil]; omega, fun x10 e10 => ⟨by omega, xcs_sz r, xcs_sz _, ?_, fun x11 e11 => ?_⟩⟩
       · rw [e10, List.nil_append, xcs_len]; omega
       · rw [List.nil_append] at e10
         refine ⟨K.length - (J + 1), by omega, J + 1, by rw [i64_in _ (by omega)]; omega, by omega, rfl, _, r.take (exN s fr r) ++ r.drop (exN s fr r + 1), rfl, ?_, ?_, ?_, hstep.symm⟩
         · rw [e11, e10, ← xcs_app]
         · rw [List.length_append, List.length_take]; omega
         · rw [List.length_append, l1, l2]; omega
 · have e : J = K.length := by omega
   rw [e, List.drop_length] at hof
   rw [← hof]
   rfl
end Go.Proofs.YtodjimecekaaeaaGreatDoor
namespace Go.Proofs.YtodjimecekaaeaaGreatDoor
open Go.RowKit Go.IntWalk
set_option linter.unusedSimpArgs false
set_option linter.unusedVariables false
theorem turn_opB {op : List UInt8} (h : opB op = true) : opB (turnO op) = true := by
 have h : op = [61] ∨ op = [60] ∨ op = [60, 61] ∨ op = [62] ∨ op = [62, 61] := by simpa [opB] using h
 rcases h with rfl | rfl | rfl | rfl | rfl <;> decide
inductive HK (w : List UInt8) : List UInt8 × List Xp → Prop where
 | no : HK w ([], [])
 | op (o : List UInt8) (a : Xp) (h : opB o = true) : HK w (o, [a])
 | is (a : Xp) : HK w (w, [a])
 | two (a b : Xp) : HK w (wBetween, [a, b])
theorem hX_k (w : List UInt8) (e : Xp) (s fr : Int) : HK w (hX w e s fr) := by
 unfold hX
 split
 · rename_i h
   unfold h4
   split
   · split
     · exact .op _ _ h.2
     · split
       · exact .op _ _ (turn_opB h.2)
       · exact .no
   · exact .no
 · split
   · unfold h5
     split
     · split
       · exact .is _
       · split
         · exact .is _
         · exact .no
     · exact .no
   · split
     · unfold h7
       split
       · split
         · exact .two _ _
         · exact .no
       · exact .no
     · exact .no
theorem hX_is (w w' : List UInt8) (e : Xp) (s fr : Int) : (hX w e s fr).2 = (hX w' e s fr).2 ∧ ((hX w e s fr).1 = (hX w' e s fr).1 ∨ ((hX w e s fr).1 = w ∧ (hX w' e s fr).1 = w')) := by
 unfold hX
 split
 · exact ⟨rfl, .inl rfl⟩
 · split
   · unfold h5
     split
     · split
       · exact ⟨rfl, .inr ⟨rfl, rfl⟩⟩
       · split
         · exact ⟨rfl, .inr ⟨rfl, rfl⟩⟩
         · exact ⟨rfl, .inl rfl⟩
     · exact ⟨rfl, .inl rfl⟩
   · split
     · exact ⟨rfl, .inl rfl⟩
     · exact ⟨rfl, .inl rfl⟩
theorem hX_eq (e : Xp) (s fr : Int) : ((hX [105, 115] e s fr).1 = [61] ∨ (hX [105, 115] e s fr).1 = [105, 115]) ↔ (hX [61] e s fr).1 = [61] := by
 have h := (hX_is [105, 115] [61] e s fr).2
 have hk := hX_k [61] e s fr
 constructor
 · rintro (g | g)
   · rcases h with h | ⟨_, h⟩
     · rw [← h]; exact g
     · exact h
   · rcases h with h | ⟨_, h⟩
     · rw [g] at h
       generalize hX [61] e s fr = R at *
       cases hk with
       | no => simp at h
       | op o a ho =>
        have h : [105, 115] = o := h
        subst h
        simp [opB] at ho
       | is a => simp at h
       | two a b => simp [wBetween] at h
     · exact h
 · intro g
   rcases h with h | ⟨h, _⟩
   · exact .inl (by rw [h]; exact g)
   · exact .inr h
theorem hX_w (e : Xp) (s fr : Int) (o : List UInt8) (h1 : o ≠ [61]) (h2 : o ≠ [105, 115]) : (hX [105, 115] e s fr).1 = o ↔ (hX [61] e s fr).1 = o := by
 rcases (hX_is [105, 115] [61] e s fr).2 with h | ⟨h, h'⟩
 · rw [h]
 · rw [h, h']
   exact ⟨fun g => absurd g.symm h2, fun g => absurd g.symm h1⟩
theorem hX_one (e : Xp) (s fr : Int) (h : opB (hX [61] e s fr).1 = true) : ∃ a, (hX [61] e s fr).2 = [a] := by
 have hk := hX_k [61] e s fr
 generalize hX [61] e s fr = R at *
 cases hk with
 | no => exact absurd h (by decide)
 | op o a ho => exact ⟨a, rfl⟩
 | is a => exact ⟨a, rfl⟩
 | two a b => simp [opB, wBetween] at h
theorem hX_two (e : Xp) (s fr : Int) (h : (hX [61] e s fr).1 = wBetween) : ∃ a b, (hX [61] e s fr).2 = [a, b] := by
 have hk := hX_k [61] e s fr
 generalize hX [61] e s fr = R at *
 cases hk with
 | no => exact absurd h (by decide)
 | op o a ho =>
  have h : o = wBetween := h
  subst h
  exact absurd ho (by decide)
 | is a => simp [wBetween] at h
 | two a b => exact ⟨a, b, rfl⟩
end Go.Proofs.YtodjimecekaaeaaGreatDoor
namespace Go.Proofs.YtodjimecekaaeaaGreatDoor
open Go.RowKit Go.IntWalk
set_option linter.unusedSimpArgs false
set_option linter.unusedVariables false
theorem ownLoop (r : List Xp) (hr : Xns r ≤ 1073741824) (Fin : List (List CV) → Prop) (hf : Fin (xcs r)) :
 (∃ I0 : List (List CV) → Int → Nat → Prop, (∃ k, I0 ([] : List (List CV)) (0 : Int) k) ∧ ∀ k0 : Nat, ∀ x11 : List (List CV), ∀ x12 : Int, I0 x11 x12 k0 → (((x12 < (((xcs r).length : Nat) : Int)) → ((0 ≤ x12 ∧ x12 < (((xcs r).length : Nat) : Int)) ∧ (([4, 10, 4, 4, 10, 10, 10, 4, 9, 9, 11] = (((((xcs r)).getD (x12).toNat []).drop 0).take 11).map kindC) ∧ (∃ x13 : Int, ∃ x14 : ByteArray, ∃ x15 : Int, ∃ x16 : Int, ∃ x17 : ByteArray, ∃ x18 : ByteArray, ∃ x19 : ByteArray, ∃ x20 : Int, ∃ x21 : Bool, ∃ x22 : Bool, ∃ x23 : List (List CV), (FnC Tryz.prog 25 [(.agg [(.v (.int .i64 ((cellAt (xcs r) x12 0).int))), (.v (.string ((cellAt (xcs r) x12 1).str))), (.v (.int .i64 ((cellAt (xcs r) x12 2).int))), (.v (.int .i64 ((cellAt (xcs r) x12 3).int))), (.v (.string ((cellAt (xcs r) x12 4).str))), (.v (.string ((cellAt (xcs r) x12 5).str))), (.v (.string ((cellAt (xcs r) x12 6).str))), (.v (.int .i64 ((cellAt (xcs r) x12 7).int))), (.v (.bool ((cellAt (xcs r) x12 8).bool))), (.v (.bool ((cellAt (xcs r) x12 9).bool))), (.vs ((cellAt (xcs r) x12 10).els))])] (.agg [(.v (.int .i64 x13)), (.v (.string x14)), (.v (.int .i64 x15)), (.v (.int .i64 x16)), (.v (.string x17)), (.v (.string x18)), (.v (.string x19)), (.v (.int .i64 x20)), (.v (.bool x21)), (.v (.bool x22)), (.vs x23)])) ∧ (∀ x24 : List (List CV), x24 = [[(.v (.int .i64 x13)), (.v (.string x14)), (.v (.int .i64 x15)), (.v (.int .i64 x16)), (.v (.string x17)), (.v (.string x18)), (.v (.string x19)), (.v (.int .i64 x20)), (.v (.bool x21)), (.v (.bool x22)), (.vs x23)]] → ((0 ≤ (((x11.length : Nat) : Int) + ((x24.length : Nat) : Int)) ∧ (((x11.length : Nat) : Int) + ((x24.length : Nat) : Int)) * (128 : Nat) ≤ 140737488355328 ∧ (((x11.length : Nat) : Int) + ((x24.length : Nat) : Int)) ≤ 9223372036854775807) ∧ (∀ x25 : List (List CV), x25 = (x11 ++ x24) → (∃ k', k' < k0 ∧ I0 x25 (IntKind.wrap .i64 (x12 + (1 : Int))) k')))))))) ∧ (¬ (x12 < (((xcs r).length : Nat) : Int)) → (Fin x11)))) := by
 have hlen := Xns_lenS r
 have ha := c_owns r hr
 rw [xcs_len]
 refine ⟨fun c i m => ∃ J : Nat, i = J ∧ J ≤ r.length ∧ c = xcs (r.take J) ∧ m = r.length - J, ⟨_, 0, rfl, by omega, rfl, rfl⟩, ?_⟩
 rintro m c i ⟨J, rfl, hJ, rfl, rfl⟩
 refine ⟨fun hi => ⟨by omega, xs_k r _ (by omega) hi, ?_⟩, fun hi => ?_⟩
 · rw [xs_D r _ (by omega) hi]
   simp only [Int.toNat_natCast]
   have hj : J < r.length := by omega
   have hc := ha J hj
   have ht : r.take (J + 1) = r.take J ++ [r[J]] := by
    rw [List.take_add_one, List.getElem?_eq_getElem hj]
    rfl
   cases hE : r[J] with
   | mk k' op' v' tb' nm' sl' nt' ds' args' =>
    rw [hE] at hc ht
    refine ⟨k', bs op', v'.1, v'.2.1, bs v'.2.2, bs tb', bs nm', sl', nt', ds', xcs args', hc, fun x24 e24 => ⟨?_, fun x25 e25 => ?_⟩⟩
    · rw [e24, xcs_len, List.length_take]
      simp only [List.length_cons, List.length_nil]
      omega
    · refine ⟨r.length - (J + 1), by omega, J + 1, by rw [i64_in _ (by omega)]; omega, by omega, ?_, rfl⟩
      rw [e25, e24, ht, xcs_app]
      rfl
 · have e : J = r.length := by omega
   rw [e, List.take_length]
   exact hf
end Go.Proofs.YtodjimecekaaeaaGreatDoor
namespace Go.Proofs.YtodjimecekaaeaaGreatDoor
open Go.RowKit Go.IntWalk
set_option linter.unusedSimpArgs false
set_option linter.unusedVariables false
theorem Xns_app : ∀ l m : List Xp, Xns (l ++ m) = Xns l + Xns m
 | [], m => by simp [Xns]
 | e :: l, m => by simp only [List.cons_append, Xns, Xns_app l m]; omega
theorem Xns_cut (l : List Xp) (n : Nat) : Xns (l.take n) + Xns (l.drop n) = Xns l := by rw [← Xns_app, List.take_append_drop]
theorem Xns_td (l : List Xp) (n : Nat) : Xns (l.take n ++ l.drop (n + 1)) ≤ Xns l := by
 have h1 := Xns_cut l n
 have h2 := Xns_cut (l.drop n) 1
 rw [List.drop_drop] at h2
 rw [Xns_app]
 omega
theorem Xn_at (l : List Xp) (i : Nat) (h : i < l.length) : Xn l[i] ≤ Xns l := by
 have h1 := Xns_cut l i
 rw [List.drop_eq_getElem_cons h] at h1
 simp only [Xns] at h1
 omega
theorem hX_Xns (w : List UInt8) (e : Xp) (s fr : Int) : Xns (hX w e s fr).2 ≤ Xn e := by
 cases e with
 | mk k op v tb nm sl nt ds args =>
  rw [hX_mk]
  simp only [Xn]
  split
  · unfold h4
    repeat' split
    all_goals simp only [Xns]
    all_goals omega
  · split
    · unfold h5
      repeat' split
      all_goals simp only [Xns]
      all_goals omega
    · split
      · unfold h7
        repeat' split
        all_goals simp only [Xns]
        all_goals omega
      · simp only [Xns]; omega
theorem endS_Xns (s fr : Int) (t : ES) (e : Xp) : Xns (endS s fr t e).2.2.2.2 ≤ Xns t.2.2.2.2 + Xn e := by
 unfold endS
 repeat' split
 all_goals first
  | (simp only [Xns_app, Xns]; omega)
  | (simp only []; omega)
theorem endsX_Xns (s fr : Int) (t : ES) : ∀ l : List Xp, Xns (endsX s fr t l).2.2.2.2 ≤ Xns t.2.2.2.2 + Xns l := fun l => by
 induction l generalizing t with
 | nil => simp [endsX, Xns]
 | cons e l ih =>
  have h1 := ih (endS s fr t e)
  have h2 := endS_Xns s fr t e
  have h3 : endsX s fr t (e :: l) = endsX s fr (endS s fr t e) l := rfl
  rw [h3]
  simp only [Xns]
  omega
theorem setLast (A : List (List CV)) (z y : List CV) : (A ++ [z]).set A.length y = A ++ [y] := by simp
end Go.Proofs.YtodjimecekaaeaaGreatDoor
namespace Go.Proofs.YtodjimecekaaeaaGreatDoor
open Go.RowKit Go.IntWalk
set_option linter.unusedSimpArgs false
set_option linter.unusedVariables false
theorem endS_ends (s fr : Int) (t : ES) (e : Xp) (h : t.1.length ≤ 2 ∧ t.2.2.1.length ≤ 2) : (endS s fr t e).1.length ≤ 2 ∧ (endS s fr t e).2.2.1.length ≤ 2 := by
 have hk : (hX [61] e s fr).2.length ≤ 2 := by
  have := hX_k [61] e s fr
  generalize hX [61] e s fr = R at *
  cases this <;> simp
 unfold endS
 repeat' split
 all_goals simp only [List.length_take, List.length_drop]
 all_goals omega
theorem endsX_ends (s fr : Int) (t : ES) (l : List Xp) (h : t.1.length ≤ 2 ∧ t.2.2.1.length ≤ 2) : (endsX s fr t l).1.length ≤ 2 ∧ (endsX s fr t l).2.2.1.length ≤ 2 := by
 unfold endsX
 induction l generalizing t with
 | nil => exact h
 | cons e l ih => exact ih _ (endS_ends s fr t e h)
theorem c_spOf (l : List Xp) (fr : Int) (K : List K3) (hXl : Xns l ≤ 1073741824) (hK : K.length ≤ 1073741824) : FnC Tryz.prog 8 [.c (.vs (xcs l)), iD fr, .c (.vs (kc K))] (resO (spX fr K [] l)) := by
 have hl := Xns_lenS l
 refine w8 (xcs l) fr (kc K) ?_
 intro x3 e3
 subst e3
 simp only [xcs_len, kc_len]
 refine ⟨xcs_sz l, by simp only [List.length_nil]; omega, fun x4 e4 => ?_⟩
 rw [List.nil_append] at e4
 subst e4
 refine ⟨fun a b i n m => ∃ J : Nat, i = J ∧ J ≤ K.length ∧ m = K.length - J ∧ ∃ Eq r : List Xp, a = xcs Eq ∧ b = xcs r ∧ n = (Eq.length : Nat) ∧ Eq.length ≤ J ∧ Xns r ≤ Xns l ∧ spX fr (K.drop J) Eq r = spX fr K [] l, ⟨_, 0, rfl, by omega, rfl, [], l, rfl, rfl, rfl, by simp, by omega, rfl⟩, ?_⟩
 rintro m a b i n ⟨J, rfl, hJ, rfl, Eq, r, rfl, rfl, rfl, hE, hr, hof⟩
 have hrl := Xns_lenS r
 have full : (xcs Eq).take ((Eq.length : Nat) : Int).toNat = xcs Eq := by rw [Int.toNat_natCast, xcs_take, List.take_length]
 have full2 : (xcs Eq).take Eq.length = xcs Eq := by rw [xcs_take, List.take_length]
 have fle : ((Eq.length : Nat) : Int) ≤ ((xcs Eq).length : Nat) := by rw [xcs_len]; omega
 refine ⟨fun hi => ?_, fun hi => ?_⟩
 · have hj : J < K.length := by omega
   refine ⟨by omega, kc_sz K, kc_k K _ (by omega) hi, ?_⟩
   rw [kc_0 K _ (by omega) hi, kc_1 K _ (by omega) hi, Int.toNat_natCast]
   refine ⟨fun hst => ?_, fun hst => ?_⟩
   · refine ownLoop r (by omega) _ ?_
     refine ⟨fle, ?_⟩
     rw [full, ← hof, spX_stop fr K Eq r J hj hst]
     rfl
   · have hstep := spX_step fr K Eq r J hj hst
     rw [hof] at hstep
     generalize hs : IntKind.wrap .i64 (fr + (K.getD J knul).1) = s at *
     have hfind : ∀ p, p < exN s fr r → ∀ (h : p < r.length), (hX [61] r[p] s fr).1 ≠ [61] := fun p hp h => by
      have := List.not_of_lt_findIdx hp
      simpa using this
     have hat : ∀ (h : exN s fr r < r.length), (hX [61] r[exN s fr r] s fr).1 = [61] := fun h => by
      have := List.findIdx_getElem (xs := r) (p := fun e => decide ((hX [61] e s fr).1 = [61])) (w := h)
      show (hX [61] (r[List.findIdx (fun e => decide ((hX [61] e s fr).1 = [61])) r]'h) s fr).1 = [61]
      simpa using this
     have hle : exN s fr r ≤ r.length := List.findIdx_le_length
     refine ⟨fun q m => ∃ Q : Nat, q = Q ∧ m = r.length - Q ∧ Q ≤ exN s fr r, ⟨_, 0, rfl, rfl, by omega⟩, ?_⟩
     rintro m q ⟨Q, rfl, rfl, hQ⟩
     rw [xcs_len]
     refine ⟨fun hq => ?_, fun hq => ?_⟩
     · have hq1 : Q < r.length := by omega
       refine ⟨by omega, xs_k r _ (by omega) (by omega), ?_⟩
       rw [xs_D r _ (by omega) (by omega), i64_in _ (by omega)]
       simp only [Int.toNat_natCast]
       refine ⟨_, _, c_sheld r[Q] s fr, ?_⟩
       simp only [mk_bs, bs_inj]
       rw [(hX_is [105, 115] [61] r[Q] s fr).1]
       refine ⟨fun h61 => ?_, fun h61 => ⟨r.length - (Q + 1), by omega, Q + 1, by omega, rfl, ?_⟩⟩
       · have h61 := (hX_eq _ _ _).1 h61
         have hQe : Q = exN s fr r := by
          by_cases c1 : Q < exN s fr r
          · exact absurd h61 (hfind Q c1 hq1)
          · omega
         obtain ⟨A, hA⟩ := hX_one r[Q] s fr (by rw [h61]; decide)
         have hXA : Xns [A] ≤ 1073741824 := by
          have := hX_Xns [61] r[Q] s fr
          have := Xn_at r Q hq1
          rw [hA] at *
          omega
         rw [List.getElem?_eq_getElem (by omega)] at hstep
         have hst2 : spX fr K [] l = spX fr (K.drop (J + 1)) (Eq ++ [A]) (r.take Q ++ r.drop (Q + 1)) := by
          rw [hstep]
          subst hQe
          simp only [hA]
          rfl
         rw [hA]
         cases A with
         | mk k' op' v' tb' nm' sl' nt' ds' args' =>
          refine ⟨by simp [xcs], xcs_sz _, rfl, k', bs op', v'.1, v'.2.1, bs v'.2.2, bs tb', bs nm', sl', nt', ds', xcs args', c_own (.mk k' op' v' tb' nm' sl' nt' ds' args') (by simp only [Xns] at hXA; omega), fun x23 e23 => ?_⟩
          rw [full2]
          refine ⟨fle, by rw [e23]; simp only [List.length_cons, List.length_nil]; omega, fun x24 e24 => ?_⟩
          have l24 : x24.length = Eq.length + 1 := by rw [e24, e23, List.length_append, xcs_len]; rfl
          refine ⟨by omega, by omega, fun x25 e25 x26 e26 => ⟨by omega, by omega, by rw [e26]; simp only [List.length_nil]; omega, fun x27 e27 => ?_⟩⟩
          have e25 : x25 = xcs (Eq ++ [.mk k' op' v' tb' nm' sl' nt' ds' args']) := by
           have g : ∀ Z : List CV, (xcs Eq ++ [Z]).getD Eq.length [] = Z := fun Z => by
            rw [List.getD_eq_getElem?_getD, List.getElem?_append_right (by rw [xcs_len]; omega), xcs_len]
            simp
           have this : ∀ Z : List CV, (xcs Eq ++ [Z]).set Eq.length (Xp.mk k' op' v' tb' nm' sl' nt' ds' args').cells = xcs Eq ++ [(Xp.mk k' op' v' tb' nm' sl' nt' ds' args').cells] := fun Z => by
            have := setLast (xcs Eq) Z (Xp.mk k' op' v' tb' nm' sl' nt' ds' args').cells
            rw [xcs_len] at this
            exact this
           rw [e25, e24, e23, g, xcs_app]
           exact this _
          have l27 : x27.length = Q := by
           rw [e27, e26, List.nil_append, xcs_take, xcs_len, List.length_take]; omega
          have tk : (r.drop (Q + 1)).take ((r.length : Int) - ((Q : Int) + 1)).toNat = r.drop (Q + 1) := List.take_of_length_le (by rw [List.length_drop]; omega)
          have tq : ((Q : Int) + 1).toNat = Q + 1 := by omega
          refine ⟨by omega, by omega, by rw [l27]; omega, fun x28 e28 => ⟨K.length - (J + 1), by omega, J + 1, by rw [i64_in _ (by omega)]; omega, by omega, rfl, _, r.take Q ++ r.drop (Q + 1), e25, ?_, ?_, ?_, ?_, ?_⟩⟩
          · rw [e28, e27, e26, List.nil_append, xcs_take, tq, xcs_dropS, xcs_take, tk, xcs_app]
          · rw [l24, List.length_append]; simp
          · rw [List.length_append]; simp only [List.length_cons, List.length_nil]; omega
          · have := Xns_td r Q
            omega
          · exact hst2.symm
       · have h61 : ¬ (hX [61] r[Q] s fr).1 = [61] := fun g => h61 ((hX_eq _ _ _).2 g)
         by_cases c1 : Q = exN s fr r
         · exact absurd (by subst c1; exact hat hq1) h61
         · omega
     · have hn : exN s fr r = r.length := by omega
       rw [hn, List.getElem?_eq_none (by omega)] at hstep
       refine ⟨fun a b i c d o m => ∃ P : Nat, i = P ∧ P ≤ r.length ∧ m = r.length - P ∧ ∃ t : ES, t = endsX s fr ([], false, [], false, []) (r.take P) ∧ a = xcs t.1 ∧ b = t.2.1 ∧ c = xcs t.2.2.1 ∧ d = t.2.2.2.1 ∧ o = xcs t.2.2.2.2, ⟨_, 0, rfl, by omega, rfl, _, rfl, rfl, rfl, rfl, rfl, rfl⟩, ?_⟩
       rintro m a b i c d o ⟨P, rfl, hP, rfl, t, ht, rfl, rfl, rfl, rfl, rfl⟩
       have hends := endsX_ends s fr ([], false, [], false, []) (r.take P) (by simp)
       rw [← ht] at hends
       have hout := endsX_out s fr ([], false, [], false, []) (r.take P)
       rw [← ht, List.length_take] at hout
       simp only [List.length_nil] at hout
       refine ⟨fun hi2 => ⟨by omega, xs_k r _ (by omega) hi2, ?_⟩, fun hi2 => ?_⟩
       · have hp : P < r.length := by omega
         have hsn := endsX_snoc s fr ([], false, [], false, []) r P hp
         rw [← ht] at hsn
         rw [xs_D r _ (by omega) hi2, xs_one r _ (by omega) hi2, i64_in ((P : Int) + 1) (by omega)]
         simp only [Int.toNat_natCast]
         have w1 := hX_w r[P] s fr [62] (by decide) (by decide)
         have w2 := hX_w r[P] s fr [62, 61] (by decide) (by decide)
         have w3 := hX_w r[P] s fr [60] (by decide) (by decide)
         have w4 := hX_w r[P] s fr [60, 61] (by decide) (by decide)
         have w5 := hX_w r[P] s fr [98, 101, 116, 119, 101, 101, 110] (by decide) (by decide)
         have v1 : ((hX [105, 115] r[P] s fr).1 == [62]) = ((hX [61] r[P] s fr).1 == [62]) := Bool.eq_iff_iff.2 (by simp only [beq_iff_eq]; exact w1)
         have v3 : ((hX [105, 115] r[P] s fr).1 == [60]) = ((hX [61] r[P] s fr).1 == [60]) := Bool.eq_iff_iff.2 (by simp only [beq_iff_eq]; exact w3)
         refine ⟨_, _, c_sheld r[P] s fr, ?_⟩
         simp only [mk_bs, bs_inj, bs_toList, xcs_len]
         rw [(hX_is [105, 115] [61] r[P] s fr).1]
         simp only [w1, w2, w3, w4, w5, v1, v3]
         have hXp : Xns (hX [61] r[P] s fr).2 ≤ 1073741824 := by
          have := hX_Xns [61] r[P] s fr
          have := Xn_at r P hp
          omega
         have step : ∀ t' : ES, t' = endS s fr t r[P] → ∃ k', k' < r.length - P ∧ ∃ J' : Nat, ((P : Int) + 1 = J') ∧ J' ≤ r.length ∧ k' = r.length - J' ∧ ∃ t2 : ES, t2 = endsX s fr ([], false, [], false, []) (r.take J') ∧ xcs t'.1 = xcs t2.1 ∧ t'.2.1 = t2.2.1 ∧ xcs t'.2.2.1 = xcs t2.2.2.1 ∧ t'.2.2.2.1 = t2.2.2.2.1 ∧ xcs t'.2.2.2.2 = xcs t2.2.2.2.2 := fun t' e =>
          ⟨r.length - (P + 1), by omega, P + 1, by omega, by omega, rfl, t', by rw [e, hsn], rfl, rfl, rfl, rfl, rfl⟩
         unfold endS at step
         have lo : ∀ g : Prop, (g ∧ (t.1.length : Int) = 0) → g ∧ t.1.length = 0 := fun g h => ⟨h.1, by omega⟩
         refine ⟨fun h1 => ?_, fun h1 => ⟨fun h2 => ?_, fun h2 => ⟨fun h3 => ?_, fun h3 => ?_⟩⟩⟩
         · have h1 : ((hX [61] r[P] s fr).1 = [62] ∨ (hX [61] r[P] s fr).1 = [62, 61]) ∧ t.1.length = 0 := ⟨h1.1, by omega⟩
           obtain ⟨A, hA⟩ := hX_one r[P] s fr (by rcases h1.1 with g | g <;> rw [g] <;> decide)
           have hXA := hXp
           rw [hA] at hXA ⊢
           cases A with
           | mk k' op' v' tb' nm' sl' nt' ds' args' =>
            refine ⟨by simp, xcs_sz _, rfl, k', bs op', v'.1, v'.2.1, bs v'.2.2, bs tb', bs nm', sl', nt', ds', xcs args', c_own (.mk k' op' v' tb' nm' sl' nt' ds' args') (by simp only [Xns] at hXA; omega), fun x29 ex29 => ?_⟩
            have this := step ((hX [61] r[P] s fr).2, (hX [61] r[P] s fr).1 == [62], t.2.2) (by rw [if_pos h1])
            rw [hA] at this
            rw [ex29]
            exact this
         · have n1 : ¬ (((hX [61] r[P] s fr).1 = [62] ∨ (hX [61] r[P] s fr).1 = [62, 61]) ∧ t.1.length = 0) := fun g => h1 ⟨g.1, by omega⟩
           have h2 : ((hX [61] r[P] s fr).1 = [60] ∨ (hX [61] r[P] s fr).1 = [60, 61]) ∧ t.2.2.1.length = 0 := ⟨h2.1, by omega⟩
           obtain ⟨A, hA⟩ := hX_one r[P] s fr (by rcases h2.1 with g | g <;> rw [g] <;> decide)
           have hXA := hXp
           rw [hA] at hXA ⊢
           cases A with
           | mk k' op' v' tb' nm' sl' nt' ds' args' =>
            refine ⟨by simp, xcs_sz _, rfl, k', bs op', v'.1, v'.2.1, bs v'.2.2, bs tb', bs nm', sl', nt', ds', xcs args', c_own (.mk k' op' v' tb' nm' sl' nt' ds' args') (by simp only [Xns] at hXA; omega), fun x29 ex29 => ?_⟩
            have this := step (t.1, t.2.1, (hX [61] r[P] s fr).2, (hX [61] r[P] s fr).1 == [60], t.2.2.2.2) (by rw [if_neg n1, if_pos h2])
            rw [hA] at this
            rw [ex29]
            exact this
         · have n1 : ¬ (((hX [61] r[P] s fr).1 = [62] ∨ (hX [61] r[P] s fr).1 = [62, 61]) ∧ t.1.length = 0) := fun g => h1 ⟨g.1, by omega⟩
           have n2 : ¬ (((hX [61] r[P] s fr).1 = [60] ∨ (hX [61] r[P] s fr).1 = [60, 61]) ∧ t.2.2.1.length = 0) := fun g => h2 ⟨g.1, by omega⟩
           have h3 : ((hX [61] r[P] s fr).1 = wBetween ∧ t.1.length = 0) ∧ t.2.2.1.length = 0 := by
            have hw : IntKind.wrap .i64 ((t.1.length : Int) + (t.2.2.1.length : Int)) = (t.1.length : Int) + (t.2.2.1.length : Int) := i64_in _ (by omega)
            have h3' := h3
            rw [hw] at h3'
            exact ⟨⟨h3'.1, by omega⟩, by omega⟩
           obtain ⟨A, B, hAB⟩ := hX_two r[P] s fr h3.1.1
           have hXA := hXp
           have this := step ((hX [61] r[P] s fr).2.take 1, t.2.1, (hX [61] r[P] s fr).2.drop 1, t.2.2.2.1, t.2.2.2.2) (by rw [if_neg n1, if_neg n2, if_pos h3])
           rw [hAB] at hXA this ⊢
           cases A with
           | mk k' op' v' tb' nm' sl' nt' ds' args' =>
           cases B with
           | mk kb opb vb tbb nmb slb ntb dsb argsb =>
            refine ⟨by simp, xcs_sz _, rfl, k', bs op', v'.1, v'.2.1, bs v'.2.2, bs tb', bs nm', sl', nt', ds', xcs args', c_own (.mk k' op' v' tb' nm' sl' nt' ds' args') (by simp only [Xns] at hXA; omega), ?_⟩
            intro x29 e29
            refine ⟨by simp, xcs_sz _, rfl, kb, bs opb, vb.1, vb.2.1, bs vb.2.2, bs tbb, bs nmb, slb, ntb, dsb, xcs argsb, c_own (.mk kb opb vb tbb nmb slb ntb dsb argsb) (by simp only [Xns] at hXA; omega), fun x41 e41 => ?_⟩
            rw [e29, e41]
            exact this
         · have n1 : ¬ (((hX [61] r[P] s fr).1 = [62] ∨ (hX [61] r[P] s fr).1 = [62, 61]) ∧ t.1.length = 0) := fun g => h1 ⟨g.1, by omega⟩
           have n2 : ¬ (((hX [61] r[P] s fr).1 = [60] ∨ (hX [61] r[P] s fr).1 = [60, 61]) ∧ t.2.2.1.length = 0) := fun g => h2 ⟨g.1, by omega⟩
           have n3 : ¬ (((hX [61] r[P] s fr).1 = wBetween ∧ t.1.length = 0) ∧ t.2.2.1.length = 0) := fun g => h3 ⟨g.1.1, by rw [g.1.2, g.2]; rfl⟩
           have this := step (t.1, t.2.1, t.2.2.1, t.2.2.2.1, t.2.2.2.2 ++ [r[P]]) (by rw [if_neg n1, if_neg n2, if_neg n3])
           refine fun x18 e18 => ⟨?_, fun x19 e19 => ?_⟩
           · rw [e18, xcs_len]
             simp only [List.length_cons, List.length_nil]
             omega
           · rw [e19, e18, ← xcs_app]
             exact this
       · have e : P = r.length := by omega
         rw [e, List.take_length] at ht
         refine ownLoop _ ?_ _ ?_
         · have := endsX_Xns s fr ([], false, [], false, []) r
           rw [← ht] at this
           simp only [Xns] at this
           omega
         · refine ⟨fle, ?_⟩
           rw [full, hstep, ht]
           rfl
 · have e : J = K.length := by omega
   rw [e, List.drop_length] at hof
   refine ownLoop r (by omega) _ ?_
   refine ⟨fle, ?_⟩
   rw [full, ← hof]
   rfl
end Go.Proofs.YtodjimecekaaeaaGreatDoor
namespace Go.Proofs.YtodjimecekaaeaaGreatDoor
open Go.RowKit Go.IntWalk
set_option linter.unusedSimpArgs false
set_option linter.unusedVariables false
def nulB (X : List (V3 × Int)) : Bool := X.any fun r => r.1.1 == 0
theorem nulB_snoc (X : List (V3 × Int)) (r : V3 × Int) : nulB (X ++ [r]) = (nulB X || r.1.1 == 0) := by simp [nulB]
theorem xr_take (X : List (V3 × Int)) (J : Nat) (h : J < X.length) : X.take (J + 1) = X.take J ++ [X.getD J (nul, 0)] := by
 rw [List.take_add_one, List.getElem?_eq_getElem h, List.getD_eq_getElem?_getD, List.getElem?_eq_getElem h]
 rfl
theorem ite_or (a b : Bool) : (if a = true then true else b) = (a || b) := by cases a <;> rfl
theorem toldLoop (l : List Xp) (row : List V3) (hl : l.length ≤ 1073741824) (X : List (V3 × Int)) (hX : X.length = l.length) (hA : ∀ i (h : i < l.length), EvR row l[i] (X.getD i (nul, 0))) (b0 : Bool)
 (Err : Bool → List (List CV) → Int → Int → Int → ByteArray → Int → Prop) (Fin : Bool → List (List CV) → Prop)
 (he : ∀ x6 x7 x8 x9 x10 x11, errV X ≠ 0 → Err x6 x7 x8 x9 x10 x11 (errV X)) (hf : errV X = 0 → Fin (b0 || nulB X) (vc (X.map (·.1)))) :
 (∃ I0 : Bool → List (List CV) → Int → Nat → Prop, (∃ k, I0 b0 ([] : List (List CV)) (0 : Int) k) ∧ ∀ k0 : Nat, ∀ x6 : Bool, ∀ x7 : List (List CV), ∀ x8 : Int, I0 x6 x7 x8 k0 → (((x8 < (((xcs l).length : Nat) : Int)) → ((0 ≤ x8 ∧ x8 < (((xcs l).length : Nat) : Int)) ∧ ((∀ el ∈ (xcs l), el.length = 11) ∧ (([4, 10, 4, 4, 10, 10, 10, 4, 9, 9, 11] = (((((xcs l)).getD (x8).toNat []).drop 0).take 11).map kindC) ∧ (∃ x9 : Int, ∃ x10 : Int, ∃ x11 : ByteArray, ∃ x12 : Int, (FnC Tryz.prog 31 [(.agg [(.v (.int .i64 ((cellAt (xcs l) x8 0).int))), (.v (.string ((cellAt (xcs l) x8 1).str))), (.v (.int .i64 ((cellAt (xcs l) x8 2).int))), (.v (.int .i64 ((cellAt (xcs l) x8 3).int))), (.v (.string ((cellAt (xcs l) x8 4).str))), (.v (.string ((cellAt (xcs l) x8 5).str))), (.v (.string ((cellAt (xcs l) x8 6).str))), (.v (.int .i64 ((cellAt (xcs l) x8 7).int))), (.v (.bool ((cellAt (xcs l) x8 8).bool))), (.v (.bool ((cellAt (xcs l) x8 9).bool))), (.vs ((cellAt (xcs l) x8 10).els))]), (.c (.vs (vc row)))] (.tup [(.agg [(.v (.int .i64 x9)), (.v (.int .i64 x10)), (.v (.string x11))]), (.c (.v (.int .i64 x12)))])) ∧ (((¬ (x12 = (0 : Int))) → (Err x6 x7 x8 x9 x10 x11 x12)) ∧ (¬ (¬ (x12 = (0 : Int))) → (∀ x13 : List (List CV), x13 = [[(.v (.int .i64 x9)), (.v (.int .i64 x10)), (.v (.string x11))]] → ((0 ≤ (((x7.length : Nat) : Int) + ((x13.length : Nat) : Int)) ∧ (((x7.length : Nat) : Int) + ((x13.length : Nat) : Int)) * (32 : Nat) ≤ 140737488355328 ∧ (((x7.length : Nat) : Int) + ((x13.length : Nat) : Int)) ≤ 9223372036854775807) ∧ (∀ x14 : List (List CV), x14 = (x7 ++ x13) → (∃ k', k' < k0 ∧ I0 (if x6 then true else (x9 == (0 : Int))) x14 (IntKind.wrap .i64 (x8 + (1 : Int))) k'))))))))))) ∧ (¬ (x8 < (((xcs l).length : Nat) : Int)) → (Fin x6 x7)))) := by
 refine ⟨fun a b i m => ∃ J : Nat, i = J ∧ J ≤ l.length ∧ m = l.length - J ∧ (∀ j, j < J → (X.getD j (nul, 0)).2 = 0) ∧ a = (b0 || nulB (X.take J)) ∧ b = vc ((X.take J).map (·.1)), ⟨_, 0, rfl, by omega, rfl, fun j h => absurd h (by omega), by simp [nulB], by simp [vc]⟩, ?_⟩
 rintro m a b i ⟨J, rfl, hJ, rfl, h0, rfl, rfl⟩
 rw [xcs_len]
 refine ⟨fun hi => ⟨by omega, xcs_sz l, xs_k l _ (by omega) hi, ?_⟩, fun hi => ?_⟩
 · have hj : J < l.length := by omega
   rw [xs_D l _ (by omega) hi, i64_in ((J : Int) + 1) (by omega)]
   simp only [Int.toNat_natCast]
   have hx := xr_take X J (by omega)
   refine ⟨_, _, _, _, hA J hj, fun h1 => ?_, fun h1 x13 e13 => ⟨?_, fun x14 e14 => ?_⟩⟩
   · have e := errV_at X J (by omega) h0 h1
     rw [← e]
     exact he _ _ _ _ _ _ (by rw [e]; exact h1)
   · rw [e13, vc_len, List.length_map, List.length_take]
     simp only [List.length_cons, List.length_nil]
     omega
   · refine ⟨l.length - (J + 1), by omega, J + 1, by omega, by omega, rfl, fun j hj2 => ?_, ?_, ?_⟩
     · by_cases c : j = J
       · subst c; simpa using h1
       · exact h0 j (by omega)
     · rw [hx]
       rw [nulB_snoc, ← Bool.or_assoc]
       exact ite_or _ _
     · rw [e14, e13, hx]
       simp [vc]
 · have e : J = l.length := by omega
   have h2 := errV_none X (fun j hj => h0 j (by omega))
   have := hf h2
   rw [e, ← hX, List.take_length]
   exact this
theorem errV_app (A B : List (V3 × Int)) : errV (A ++ B) = if errV A = 0 then errV B else errV A := by
 induction A with
 | nil => simp [errV]
 | cons a A ih =>
  simp only [List.cons_append, errV, ih]
  split <;> rename_i h
  · rfl
  · rfl
def boundsX (Q L H : List (V3 × Int)) : List V3 × List V3 × Bool × Int :=
 if errV (Q ++ (L ++ H)) ≠ 0 then ([], [], false, errV (Q ++ (L ++ H))) else if nulB (Q ++ (L ++ H)) = true then ([], [], true, 0)
 else (Q.map (·.1) ++ L.map (·.1), Q.map (·.1) ++ H.map (·.1), false, 0)
def boundsD (r : List V3 × List V3 × Bool × Int) : DV := .tup [.c (.vs (vc r.1)), .c (.vs (vc r.2.1)), bD r.2.2.1, iD r.2.2.2]
theorem c_Bounds (Eq Lo Hi : List Xp) (lo ho : Bool) (row : List V3) (hE : Eq.length ≤ 1073741824) (Q L H : List (V3 × Int))
 (hQ : Q.length = Eq.length) (hL : L.length = (Lo.take 1).length) (hH : H.length = (Hi.take 1).length)
 (aQ : ∀ i (h : i < Eq.length), EvR row Eq[i] (Q.getD i (nul, 0))) (aL : ∀ i (h : i < (Lo.take 1).length), EvR row (Lo.take 1)[i] (L.getD i (nul, 0))) (aH : ∀ i (h : i < (Hi.take 1).length), EvR row (Hi.take 1)[i] (H.getD i (nul, 0))) :
 FnC Tryz.prog 14 [.agg [.vs (xcs Eq), .vs (xcs Lo), .vs (xcs Hi), .v (.bool lo), .v (.bool ho)], .c (.vs (vc row))] (boundsD (boundsX Q L H)) := by
 have key : ∀ M : List Xp, (xcs M).take (if (decide ((1 : Int) < ((xcs M).length : Nat))) then (1 : Int) else ((xcs M).length : Nat)).toNat = xcs (M.take 1) := fun M => by
  rw [xcs_take, xcs_len]
  split
  · rfl
  · rename_i h
    have h : M.length ≤ 1 := by
     have := of_decide_eq_false (Bool.eq_false_iff.2 h)
     omega
    rw [List.take_of_length_le (by omega), List.take_of_length_le (by omega)]
 have key0 : (xcs Eq).take (if (decide (((xcs Eq).length : Int) < ((xcs Eq).length : Nat))) then ((xcs Eq).length : Int) else ((xcs Eq).length : Nat)).toNat = xcs Eq := by
  have : (if (decide (((xcs Eq).length : Int) < ((xcs Eq).length : Nat))) then ((xcs Eq).length : Int) else ((xcs Eq).length : Nat)) = ((xcs Eq).length : Nat) := by split <;> rfl
  rw [this, Int.toNat_natCast, List.take_length]
 have cut : ∀ M : List Xp, (0 : Int) ≤ 0 ∧ (0 : Int) ≤ (if (decide ((1 : Int) < ((xcs M).length : Nat))) then (1 : Int) else ((xcs M).length : Nat)) ∧ (if (decide ((1 : Int) < ((xcs M).length : Nat))) then (1 : Int) else ((xcs M).length : Nat)) ≤ ((xcs M).length : Nat) := fun M => by
  split
  · rename_i h
    have := of_decide_eq_true h
    omega
  · omega
 have cut0 : (0 : Int) ≤ 0 ∧ (0 : Int) ≤ (if (decide (((xcs Eq).length : Int) < ((xcs Eq).length : Nat))) then ((xcs Eq).length : Int) else ((xcs Eq).length : Nat)) ∧ (if (decide (((xcs Eq).length : Int) < ((xcs Eq).length : Nat))) then ((xcs Eq).length : Int) else ((xcs Eq).length : Nat)) ≤ ((xcs Eq).length : Nat) := by
  split <;> omega
 have tl : ∀ M : List Xp, (M.take 1).length ≤ 1073741824 := fun M => by rw [List.length_take]; omega
 refine w14 (xcs Eq) (xcs Lo) (xcs Hi) lo ho (vc row) ?_
 rw [key0]
 refine ⟨cut0, xcs_sz _, toldLoop Eq row hE Q hQ aQ false _ _ ?_ ?_⟩
 · intro x6 x7 x8 x9 x10 x11 h
   refine ⟨fun _ => ?_, fun g => absurd h g⟩
   rw [boundsX, errV_app, if_neg h, if_pos h]
   rfl
 · intro h
   rw [key]
   refine ⟨cut Lo, xcs_sz _, toldLoop (Lo.take 1) row (tl _) L hL aL _ _ _ ?_ ?_⟩
   · intro x6 x7 x8 x9 x10 x11 h1
     refine ⟨fun _ => ?_, fun g => absurd h1 g⟩
     rw [boundsX, errV_app, if_pos h, errV_app, if_neg h1, if_pos h1]
     rfl
   · intro h1
     rw [key]
     refine ⟨cut Hi, xcs_sz _, toldLoop (Hi.take 1) row (tl _) H hH aH _ _ _ ?_ ?_⟩
     · intro x6 x7 x8 x9 x10 x11 h2
       refine ⟨fun _ => ?_, fun g => absurd h2 g⟩
       rw [boundsX, errV_app, if_pos h, errV_app, if_pos h1, if_pos h2]
       rfl
     · intro h2
       have hE0 : errV (Q ++ (L ++ H)) = 0 := by rw [errV_app, if_pos h, errV_app, if_pos h1, h2]
       have hN : nulB (Q ++ (L ++ H)) = (false || nulB Q || nulB L || nulB H) := by simp [nulB, Bool.or_assoc]
       have l1 : L.length ≤ 1 := by rw [hL, List.length_take]; omega
       have l2 : H.length ≤ 1 := by rw [hH, List.length_take]; omega
       rw [boundsX, if_neg (by omega), hN]
       refine ⟨fun g => by rw [if_pos g]; rfl, fun g => ?_⟩
       rw [if_neg g]
       intro x15 e15
       subst e15
       simp only [vc_len, List.length_map, List.length_nil, List.nil_append]
       refine ⟨by omega, fun x16 e16 => ?_⟩
       subst e16
       simp only [vc_len, List.length_map]
       refine ⟨by omega, fun x17 e17 x18 e18 => ?_⟩
       subst e17 e18
       simp only [vc_len, List.length_map, List.length_nil, List.nil_append]
       refine ⟨by omega, fun x19 e19 => ?_⟩
       subst e19
       simp only [vc_len, List.length_map]
       refine ⟨by omega, fun x20 e20 => ?_⟩
       subst e20
       simp [boundsD, vc]
end Go.Proofs.YtodjimecekaaeaaGreatDoor
namespace Go.Proofs.YtodjimecekaaeaaGreatDoor
open Go.RowKit Go.IntWalk
set_option linter.unusedSimpArgs false
set_option linter.unusedVariables false
mutual
theorem c_rSame : ∀ e : Xp, Xi e → FnC Tryz.prog 28 [xD e, xD e] (bD true)
 | .mk k op v tb nm sl nt ds args, h => by
  simp only [Xi] at h
  obtain ⟨_, ⟨_, _, _, _, _, ht, hm⟩, hl, ha⟩ := h
  have hs := c_rSames args ha
  unfold maxLen at *
  unfold xD at hs ⊢
  simp only [Xp.cells]
  refine w28 k (bs op) v.1 v.2.1 (bs v.2.2) (bs tb) (bs nm) sl nt ds (xcs args) k (bs op) v.1 v.2.1 (bs v.2.2) (bs tb) (bs nm) sl nt ds (xcs args) ?_
  refine ⟨_, fun _ => c_r3FoldZ tb ht, _, fun _ => c_r3FoldZ tb ht, _, fun _ => c_r3FoldZ nm hm, _, fun _ => c_r3FoldZ nm hm, ?_⟩
  rw [xcs_len]
  refine ⟨fun g => by simp at g, fun _ => ?_⟩
  refine ⟨fun i m => ∃ J : Nat, i = J ∧ J ≤ args.length ∧ m = args.length - J, ⟨_, 0, rfl, by omega, rfl⟩, ?_⟩
  rintro m i ⟨J, rfl, hJ, rfl⟩
  refine ⟨fun hi => ⟨by omega, xcs_sz args, xs_k args _ (by omega) hi, by omega, xcs_sz args, xs_k args _ (by omega) hi, true, ?_, fun g => absurd rfl g, fun _ => ⟨args.length - (J + 1), by omega, J + 1, by rw [i64_in _ (by omega)]; omega, by omega, rfl⟩⟩, fun hi => rfl⟩
  rw [xs_D args _ (by omega) hi]
  exact hs J (by omega)
theorem c_rSames : ∀ l : List Xp, Xis l → ∀ (i : Nat) (h : i < l.length), FnC Tryz.prog 28 [xD l[i], xD l[i]] (bD true)
 | [], _, i, h => by simp at h
 | e :: l, hx, 0, _ => c_rSame e hx.1
 | e :: l, hx, i + 1, h => c_rSames l hx.2 i (by simpa using h)
end
theorem c_Exprs (args : List Xp) (ha : Xis args) (hl : args.length ≤ maxLen) : FnC Tryz.prog 11 [.c (.vs (xcs args)), .c (.vs (xcs args))] (bD true) := by
 have hs := c_rSames args ha
 unfold maxLen at *
 refine w11 (xcs args) (xcs args) ?_
 rw [xcs_len]
 refine ⟨fun g => absurd rfl g, fun _ => ?_⟩
 refine ⟨fun i m => ∃ J : Nat, i = J ∧ J ≤ args.length ∧ m = args.length - J, ⟨_, 0, rfl, by omega, rfl⟩, ?_⟩
 rintro m i ⟨J, rfl, hJ, rfl⟩
 refine ⟨fun hi => ⟨by omega, xcs_sz args, xs_k args _ (by omega) hi, by omega, xcs_sz args, xs_k args _ (by omega) hi, true, ?_, fun g => absurd rfl g, fun _ => ⟨args.length - (J + 1), by omega, J + 1, by rw [i64_in _ (by omega)]; omega, by omega, rfl⟩⟩, fun hi => rfl⟩
 rw [xs_D args _ (by omega) hi]
 exact hs J (by omega)
theorem c_spSame (A B C : List Xp) (a b : Bool) (hA : Xis A) (hB : Xis B) (hC : Xis C) (lA : A.length ≤ maxLen) (lB : B.length ≤ maxLen) (lC : C.length ≤ maxLen) :
 FnC Tryz.prog 10 [.agg [.vs (xcs A), .vs (xcs B), .vs (xcs C), .v (.bool a), .v (.bool b)], .agg [.vs (xcs A), .vs (xcs B), .vs (xcs C), .v (.bool a), .v (.bool b)]] (bD true) := by
 refine w10 (xcs A) (xcs B) (xcs C) a b (xcs A) (xcs B) (xcs C) a b ?_
 refine ⟨true, c_Exprs A hA lA, true, fun _ => c_Exprs B hB lB, true, fun _ => c_Exprs C hC lC, ?_⟩
 simp
def greatL : Nat → List Xp → Bool
 | 0, l => !l.isEmpty
 | n + 1, l => decide (40 < l.length) || l.any fun e => greatL n (xargs e)
theorem c_great : ∀ (n : Nat) (hn : n ≤ 1000) (l : List Xp), Xis l → l.length ≤ maxLen → FnC Tryz.prog 7 [.c (.vs (xcs l)), iD n] (bD (greatL n l))
 | 0, _, l, hx, hl => by
  refine w7 (xcs l) (0 : Nat) ?_
  rw [xcs_len]
  refine ⟨fun i k => i = 0, ⟨0, rfl⟩, ?_⟩
  rintro k i rfl
  refine ⟨fun h => ⟨fun h => absurd (.inr rfl) h, fun h => absurd (.inr rfl) h, fun h => absurd (.inr rfl) h, false, fun h => absurd (.inr rfl) h, fun _ => ?_, fun h => absurd (.inl (.inr rfl)) h⟩, fun h => ?_⟩
  · cases l with
    | nil => simp at h
    | cons => rfl
  · cases l with
    | nil => rfl
    | cons => simp at h
 | n + 1, hn, l, hx, hl => by
  unfold maxLen at hl
  have kids : ∀ (i : Nat) (h : i < l.length), FnC Tryz.prog 7 [.c (.vs (cellAt (xcs l) i 10).els), iD n] (bD (greatL n (xargs l[i]))) := fun i h => by
   have hxi := hx.at i h
   have e : (cellAt (xcs l) i 10).els = xcs (xargs l[i]) := by
    simp only [cellAt]
    rw [show ((i : Nat) : Int).toNat = i from rfl, xcs_get l i h]
    cases l[i]
    rfl
   rw [e]
   cases hE : l[i] with
   | mk k op v tb nm sl nt ds args =>
    rw [hE] at hxi
    simp only [Xi] at hxi
    exact c_great n (by omega) args hxi.2.2.2 hxi.2.2.1
  refine w7 (xcs l) ((n + 1 : Nat) : Int) ?_
  rw [xcs_len]
  refine ⟨fun i m => ∃ J : Nat, i = J ∧ J ≤ l.length ∧ J ≤ 40 ∧ m = l.length - J ∧ ∀ j (h : j < l.length), j < J → greatL n (xargs l[j]) = false, ⟨_, 0, rfl, by omega, by omega, rfl, fun j _ h => absurd h (by omega)⟩, ?_⟩
  rintro m i ⟨J, rfl, hJ, hJ4, rfl, hf⟩
  have hw : IntKind.wrap .i64 (((n + 1 : Nat) : Int) - 1) = (n : Nat) := by
   rw [i64_in _ (by omega)]; omega
  rw [hw]
  refine ⟨fun hi => ?_, fun hi => ?_⟩
  · have hj : J < l.length := by omega
    refine ⟨fun _ => by omega, fun _ => xcs_sz l, fun _ => ?_, greatL n (xargs l[J]), fun _ => kids J hj, fun h => ?_, fun h => ?_⟩
    · rw [xcs_get l _ (by omega)]
      cases l[((J : Nat) : Int).toNat]'(by omega)
      rfl
    · have : greatL (n + 1) l = true := by
       simp only [greatL, Bool.or_eq_true, decide_eq_true_eq, List.any_eq_true]
       rcases h with (h | h) | h
       · exact .inl (by omega)
       · omega
       · exact .inr ⟨_, List.getElem_mem hj, h⟩
      rw [this]
    · refine ⟨l.length - (J + 1), by omega, J + 1, by rw [i64_in _ (by omega)]; omega, by omega, ?_, rfl, fun j h2 h3 => ?_⟩
      · by_cases c : 40 ≤ J
        · exact absurd (.inl (.inl (by omega))) h
        · omega
      · by_cases c : j = J
        · subst c
          by_cases c2 : greatL n (xargs l[j]) = true
          · exact absurd (.inr c2) h
          · simpa using c2
        · exact hf j h2 (by omega)
  · have e : J = l.length := by omega
    have : greatL (n + 1) l = false := by
     simp only [greatL, Bool.or_eq_false_iff, decide_eq_false_iff_not, List.any_eq_false]
     refine ⟨by omega, fun x hx => ?_⟩
     obtain ⟨j, h1, h2⟩ := List.getElem_of_mem hx
     rw [← h2, hf j h1 (by omega)]
     simp
    rw [this]
def xcol (s : Int) : Xp := .mk 2 [] nul [] [] s false false []
def xnum (n : Int) : Xp := .mk 1 [] (1, n, []) [] [] 0 false false []
theorem c_xcol (s : Int) : FnC Tryz.prog 21 [iD s] (xD (xcol s)) := w21 s rfl
theorem c_xnum (n : Int) : FnC Tryz.prog 22 [iD n] (xD (xnum n)) := w22 n rfl
def awL : List Xp := [.mk 4 [62] nul [] [] 0 false false [xcol 1, xnum 5], .mk 4 [61] nul [] [] 0 false false [xcol 0, xnum 7]]
def awK : List K3 := [(0, 0, false), (1, 0, false)]
theorem aw_sp : spX 0 awK [] awL = ([xnum 7], [xnum 5], true, [], false, []) := by rfl
def deN : CV → CV
 | .v (.slice none 0 0) => .vs []
 | c => c
theorem CVR.deN {w : World} {X : Nat → Prop} {c : CV} {r : Value} (h : CVR w X c r) : CVR w X (deN c) r := by
 unfold Go.Proofs.YtodjimecekaaeaaGreatDoor.deN
 split
 · cases h
   exact .nil none
 · exact h
theorem CVR.deNs {w : World} {X : Nat → Prop} {els : List (List CV)} {r : Value} (h : CVR w X (.vs els) r) : CVR w X (.vs (els.map fun el => el.map Go.Proofs.YtodjimecekaaeaaGreatDoor.deN)) r := by
 cases h with
 | nil a => exact .nil a
 | vs _ b o sz c g hsz hc hcell hval =>
  have e : els.length = (els.map fun el => el.map Go.Proofs.YtodjimecekaaeaaGreatDoor.deN).length := by simp
  have at1 : ∀ (i : Nat) (el : List CV), (els.map fun el => el.map Go.Proofs.YtodjimecekaaeaaGreatDoor.deN)[i]? = some el → ∀ (f : Nat) (cv : CV), el[f]? = some cv → ∃ el' cv', els[i]? = some el' ∧ el'[f]? = some cv' ∧ cv = Go.Proofs.YtodjimecekaaeaaGreatDoor.deN cv' := fun i el h1 f cv h2 => by
   rw [List.getElem?_map] at h1
   cases h3 : els[i]? with
   | none => rw [h3] at h1; cases h1
   | some el' =>
    rw [h3] at h1
    simp only [Option.map_some, Option.some.injEq] at h1
    subst h1
    rw [List.getElem?_map] at h2
    cases h4 : el'[f]? with
    | none => rw [h4] at h2; cases h2
    | some cv' =>
     rw [h4] at h2
     simp only [Option.map_some, Option.some.injEq] at h2
     exact ⟨el', cv', rfl, h4, h2.symm⟩
  rw [e]
  refine .vs _ b o sz c g (fun el h => ?_) (by rw [← e]; exact hc) (fun i el h1 f cv h2 => ?_) (fun i el h1 f cv h2 => ?_)
  · rw [List.mem_map] at h
    obtain ⟨el', h, rfl⟩ := h
    rw [List.length_map]
    exact hsz el' h
  · obtain ⟨el', cv', g1, g2, _⟩ := at1 i el h1 f cv h2
    exact hcell i el' g1 f cv' g2
  · obtain ⟨el', cv', g1, g2, rfl⟩ := at1 i el h1 f cv h2
    exact (hval i el' g1 f cv' g2).deN
theorem aw_bounds : FnC Tryz.prog 14 [.agg [.vs [[.v (.int .i64 1), .v (.string ⟨#[]⟩), .v (.int .i64 0), .v (.int .i64 0), .v (.string ⟨#[]⟩), .v (.string ⟨#[]⟩), .v (.string ⟨#[]⟩), .v (.int .i64 0), .v (.bool false), .v (.bool false), .v (.slice none 0 0)]], .vs [], .vs [], .v (.bool false), .v (.bool false)], .c (.vs [])] (.tup [.c (.vs []), .c (.vs []), bD true, iD 0]) := by
 have b := c_Bounds [.mk 1 [] nul [] [] 0 false false []] [] [] false false [] (by decide) [(nul, 0)] [] [] rfl rfl rfl (fun i h => by
  match i, h with
  | 0, _ => exact ev_val1 nul false) (fun i h => absurd h (by simp)) (fun i h => absurd h (by simp))
 refine fnC_arg b fun w X vs hv => ?_
 match vs, hv with
 | [a, r], hv =>
  simp only [DVRs, DVR] at hv ⊢
  obtain ⟨⟨s, rfl, h⟩, h2, _⟩ := hv
  refine ⟨⟨s, rfl, ?_⟩, h2, trivial⟩
  match hs : s.toList, h with
  | [c0, c1, c2, c3, c4], h =>
   simp only [CVRs] at h ⊢
   exact ⟨h.1.deNs, h.2⟩
theorem c_awake : FnC Tryz.prog 6 [] (bD true) := by
 have o := c_spOf awL 0 awK (by decide) (by decide)
 rw [aw_sp] at o
 refine w6 ?_
 refine ⟨_, _, _, _, _, _, _, _, _, _, _, c_xcol 1, _, _, _, _, _, _, _, _, _, _, _, c_xnum 5, fun x22 e22 => ⟨_, _, _, _, _, _, _, _, _, _, _, c_xcol 0, _, _, _, _, _, _, _, _, _, _, _, c_xnum 7, fun x45 e45 x46 e46 x47 e47 => ?_⟩⟩
 have q46 : x46 = xcs awL := by rw [e46, e22, e45]; rfl
 have q47 : x47 = kc awK := by rw [e47]; rfl
 rw [q46, q47]
 refine ⟨xcs [xnum 7], xcs [xnum 5], xcs [], true, false, xcs [], o, fun x54 e54 => ⟨[], [], true, 0, by rw [e54]; exact aw_bounds, fun _ => ⟨fun _ => ?_, fun h => absurd rfl h⟩, fun h => absurd rfl h⟩⟩
 refine ⟨_, _, _, _, _, _, _, _, _, _, _, c_xnum 7, fun x70 e70 => ⟨_, _, _, _, _, _, _, _, _, _, _, c_xnum 5, fun x82 e82 => ⟨true, ?_, fun _ => ⟨fun _ => rfl, fun h => absurd rfl h⟩, fun h => absurd rfl h⟩⟩⟩
 have q70 : x70 = xcs [xnum 7] := by rw [e70]; rfl
 have q82 : x82 = xcs [xnum 5] := by rw [e82]; rfl
 rw [q70, q82]
 have xi : ∀ n : Int, I64 n → Xis [xnum n] := fun n h => ⟨by simp only [xnum, Xi]; unfold maxLen I64 at *; refine ⟨by omega, ⟨by omega, by omega, by omega, by simp, by simp, by simp, by simp⟩, by simp, trivial⟩, trivial⟩
 exact c_spSame [xnum 7] [xnum 5] [] true false (xi 7 (by unfold I64; omega)) (xi 5 (by unfold I64; omega)) trivial (by unfold maxLen; simp) (by unfold maxLen; simp) (by simp)
end Go.Proofs.YtodjimecekaaeaaGreatDoor
namespace Go.Proofs.YtodjimecekaaeaaGreatDoor
open Go.RowKit Go.IntWalk
set_option linter.unusedSimpArgs false
set_option linter.unusedVariables false
theorem Xis_iff : ∀ l : List Xp, Xis l ↔ ∀ e ∈ l, Xi e
 | [] => by simp [Xis]
 | e :: l => by simp [Xis, Xis_iff l]
section
variable {P : Xp → Prop} (hP : ∀ e, P e → ∀ a ∈ xargs e, P a)
include hP
theorem hX_all (w : List UInt8) (e : Xp) (s fr : Int) (h : P e) : ∀ a ∈ (hX w e s fr).2, P a := by
 have ha := hP e h
 unfold hX
 generalize xargs e = l at *
 split
 · unfold h4
   split
   · repeat' split
     all_goals simp_all
   · simp
 · split
   · unfold h5
     split
     · repeat' split
       all_goals simp_all
     · simp
   · split
     · unfold h7
       split
       · repeat' split
         all_goals simp_all
       · simp
     · simp
theorem endS_all (s fr : Int) (t : ES) (e : Xp) (h : P e) (ht : (∀ a ∈ t.1, P a) ∧ (∀ a ∈ t.2.2.1, P a) ∧ (∀ a ∈ t.2.2.2.2, P a)) :
 (∀ a ∈ (endS s fr t e).1, P a) ∧ (∀ a ∈ (endS s fr t e).2.2.1, P a) ∧ (∀ a ∈ (endS s fr t e).2.2.2.2, P a) := by
 have hx := hX_all hP [61] e s fr h
 unfold endS
 generalize hX [61] e s fr = R at *
 obtain ⟨h1, h2, h3⟩ := ht
 repeat' split
 · exact ⟨hx, h2, h3⟩
 · exact ⟨h1, hx, h3⟩
 · exact ⟨fun a ha => hx a (List.mem_of_mem_take ha), fun a ha => hx a (List.mem_of_mem_drop ha), h3⟩
 · refine ⟨h1, h2, fun a ha => ?_⟩
   simp only [List.mem_append, List.mem_singleton] at ha
   rcases ha with ha | rfl
   · exact h3 a ha
   · exact h
theorem endsX_all (s fr : Int) : ∀ (l : List Xp) (t : ES), (∀ e ∈ l, P e) → ((∀ a ∈ t.1, P a) ∧ (∀ a ∈ t.2.2.1, P a) ∧ (∀ a ∈ t.2.2.2.2, P a)) →
 (∀ a ∈ (endsX s fr t l).1, P a) ∧ (∀ a ∈ (endsX s fr t l).2.2.1, P a) ∧ (∀ a ∈ (endsX s fr t l).2.2.2.2, P a)
 | [], t, _, ht => ht
 | e :: l, t, h, ht => endsX_all s fr l (endS s fr t e) (fun a ha => h a (by simp [ha])) (endS_all hP s fr t e (h e (by simp)) ht)
theorem spX_all (fr : Int) : ∀ (K : List K3) (Eq l : List Xp), (∀ e ∈ Eq, P e) → (∀ e ∈ l, P e) →
 (∀ e ∈ (spX fr K Eq l).1, P e) ∧ (∀ e ∈ (spX fr K Eq l).2.1, P e) ∧ (∀ e ∈ (spX fr K Eq l).2.2.2.1, P e) ∧ (∀ e ∈ (spX fr K Eq l).2.2.2.2.2, P e)
 | [], Eq, l, h1, h2 => ⟨h1, by simp [spX], by simp [spX], h2⟩
 | k :: K, Eq, l, h1, h2 => by
  unfold spX
  split
  · exact ⟨h1, by simp, by simp, h2⟩
  · split
    · rename_i e he
      obtain ⟨hlt, he⟩ := List.getElem?_eq_some_iff.1 he
      have pe : P e := h2 e (he ▸ List.getElem_mem hlt)
      refine spX_all fr K _ _ (fun a ha => ?_) (fun a ha => ?_)
      · simp only [List.mem_append] at ha
        rcases ha with ha | ha
        · exact h1 a ha
        · exact hX_all hP [61] e _ _ pe a (List.mem_of_mem_take ha)
      · simp only [List.mem_append] at ha
        rcases ha with ha | ha
        · exact h2 a (List.mem_of_mem_take ha)
        · exact h2 a (List.mem_of_mem_drop ha)
    · obtain ⟨g1, g2, g3⟩ := endsX_all hP (IntKind.wrap .i64 (fr + k.1)) fr l ([], false, [], false, []) h2 (by simp)
      exact ⟨h1, g1, g2, g3⟩
end
theorem spX_len (fr : Int) : ∀ (K : List K3) (Eq l : List Xp),
 (spX fr K Eq l).1.length ≤ Eq.length + K.length ∧ (spX fr K Eq l).2.1.length ≤ 2 ∧ (spX fr K Eq l).2.2.2.1.length ≤ 2 ∧ (spX fr K Eq l).2.2.2.2.2.length ≤ l.length
 | [], Eq, l => by simp [spX]
 | k :: K, Eq, l => by
  unfold spX
  split
  · simp
  · split
    · have h := spX_len fr K (Eq ++ (hX [61] (by assumption) (IntKind.wrap .i64 (fr + k.1)) fr).2.take 1) (l.take (exN (IntKind.wrap .i64 (fr + k.1)) fr l) ++ l.drop (exN (IntKind.wrap .i64 (fr + k.1)) fr l + 1))
      have h2 : (l.take (exN (IntKind.wrap .i64 (fr + k.1)) fr l) ++ l.drop (exN (IntKind.wrap .i64 (fr + k.1)) fr l + 1)).length ≤ l.length := by
       rw [List.length_append, List.length_take, List.length_drop]; omega
      simp only [List.length_append, List.length_take, List.length_cons] at h h2 ⊢
      refine ⟨?_, h.2.1, h.2.2.1, ?_⟩
      · have := h.1
        omega
      · have := h.2.2.2
        omega
    · have h1 := endsX_ends (IntKind.wrap .i64 (fr + k.1)) fr ([], false, [], false, []) l (by simp)
      have h2 := endsX_out (IntKind.wrap .i64 (fr + k.1)) fr ([], false, [], false, []) l
      simp only [List.length_nil] at h2
      exact ⟨by simp, h1.1, h1.2, Nat.le_trans h2 (by omega)⟩
theorem Xi_args : ∀ e : Xp, Xi e → ∀ a ∈ xargs e, Xi a
 | .mk k op v tb nm sl nt ds args, h => by
  simp only [Xi] at h
  exact (Xis_iff args).1 h.2.2.2
theorem walkOf (l : List Xp) (fr : Int) (K : List K3) (xi : Xis l) (xn : Xns l ≤ 1048576) (hK : K.length ≤ maxLen) : FnC Tryz.prog 3 [.c (.vs (xcs l)), iD fr, .c (.vs (kc K))] (bD true) := by
 have hl := Xns_lenS l
 have hm : l.length ≤ maxLen := by unfold maxLen; omega
 unfold maxLen at hK
 refine w3 (xcs l) fr (kc K) ?_
 rw [kc_len]
 refine ⟨true, c_awake, greatL 12 l, fun _ => c_great 12 (by omega) l xi hm, fun _ => ⟨true, c_awake, rfl⟩, fun hg => ?_⟩
 have hK40 : K.length ≤ 40 := by
  by_cases c : (40 : Int) < (K.length : Nat)
  · exact absurd (.inl (.inl (.inr c))) hg
  · omega
 refine ⟨fun i m => ∃ J : Nat, i = J ∧ J ≤ K.length ∧ m = K.length - J, ⟨_, 0, rfl, by omega, rfl⟩, ?_⟩
 rintro m i ⟨J, rfl, hJ, rfl⟩
 refine ⟨fun hi => ⟨by omega, kc_sz K, kc_k0 K _ (by omega) hi, fun _ => rfl, fun _ => ⟨K.length - (J + 1), by omega, J + 1, by rw [i64_in _ (by omega)]; omega, by omega, rfl⟩⟩, fun hi => ?_⟩
 have hall := spX_all Xi_args fr K [] l (by simp) ((Xis_iff l).1 xi)
 have hlen := spX_len fr K [] l
 simp only [← Xis_iff, List.length_nil] at hall hlen
 refine ⟨_, _, _, _, _, _, c_spOf l fr K (by omega) (by omega), _, _, _, _, _, _, c_rspOf l fr K (by omega) (by omega), true, ?_, true, fun _ => ?_, rfl⟩
 · exact c_spSame _ _ _ _ _ hall.1 hall.2.1 hall.2.2.1 (by unfold maxLen; omega) (by unfold maxLen; omega) (by unfold maxLen; omega)
 · exact c_Exprs _ hall.2.2.2 (by unfold maxLen; omega)
end Go.Proofs.YtodjimecekaaeaaGreatDoor
namespace Go.Proofs.YtodjimecekaaeaaGreatDoor
open Go.RowKit Go.ChangeShapes Go.WideShapes Go.IntWalk
set_option linter.unusedSimpArgs false
set_option linter.unusedVariables false
section
variable {H : Type} {enc : TypeId × Value → H} {P : Program} {W : World}
theorem key_cells {t : TypeId} {f0 f1 f2 : Field} (ht : P.underlying t = some (.struct #[f0, f1, f2])) (ct : P.cellsOf t = 3) (o0 : f0.offset = 0) (o1 : f1.offset = 1) (o2 : f2.offset = 2)
 (c0 : P.cellsOf f0.type = 1) (c1 : P.cellsOf f1.type = 1) (c2 : P.cellsOf f2.type = 1) (h0 : P.underlying f0.type = some (.int .i64)) (h1 : P.underlying f1.type = some (.int .i64)) (h2 : P.underlying f2.type = some .bool)
 (n : Nat) (cs : List Value) (x : DataW H × List MemPlace) (h : DataW.trod enc P W 0 (fun _ => true) true n t cs = some x) :
 ∃ el : List CV, CVRs W (fun _ => False) el cs ∧ ∃ k : K3, el = [.v (.int .i64 k.1), .v (.int .i64 k.2.1), .v (.bool k.2.2)] ∧ I64 k.1 ∧ I64 k.2.1 := by
 obtain ⟨xs, k, _, _, hl, hxl, hf⟩ := DataW.trod_struct ht h
 rw [ct] at hl
 match cs, hl, xs, hxl with
 | [a, b, c], _, [y0, y1, y2], _ =>
  have g0 := hf 0 f0 rfl
  have g1 := hf 1 f1 rfl
  have g2 := hf 2 f2 rfl
  simp [o0, o1, o2, c0, c1, c2] at g0 g1 g2
  obtain ⟨z0, e0, _, w0⟩ := DataW.trod_int h0 g0
  obtain ⟨z1, e1, _, w1⟩ := DataW.trod_int h1 g1
  obtain ⟨s, e2, _⟩ := DataW.trod_bool h2 g2
  simp only [List.cons.injEq, and_true] at e0 e1 e2
  subst e0 e1 e2
  refine ⟨[.v (.int .i64 z0), .v (.int .i64 z1), .v (.bool s)], ?_, (z0, z1, s), rfl, wf_i64 w0, wf_i64 w1⟩
  simp only [CVRs]
  exact ⟨.v _ rfl, .v _ rfl, .v _ rfl, trivial⟩
end
def KeyOk (k : K3) : Prop := I64 k.1 ∧ I64 k.2.1
theorem keys_of : ∀ {els : List (List CV)}, (∀ el ∈ els, ∃ k : K3, el = [.v (.int .i64 k.1), .v (.int .i64 k.2.1), .v (.bool k.2.2)] ∧ I64 k.1 ∧ I64 k.2.1) → ∃ K : List K3, els = kc K ∧ ∀ k ∈ K, KeyOk k
 | [], _ => ⟨[], rfl, by simp⟩
 | el :: els, h => by
  obtain ⟨v, rfl, hv⟩ := h el (by simp)
  obtain ⟨K, rfl, hK⟩ := keys_of (els := els) fun e he => h e (by simp [he])
  refine ⟨v :: K, rfl, fun u hu => ?_⟩
  rcases List.mem_cons.1 hu with rfl | hu
  · exact hv
  · exact hK u hu
set_option maxRecDepth 100000 in
theorem key_trod {H : Type} {enc : TypeId × Value → H} {W : World} (n : Nat) (cs : List Value) (x : DataW H × List MemPlace) (h : DataW.trod enc Tryz.prog W 0 (fun _ => true) true n 27 cs = some x) :
 ∃ el : List CV, CVRs W (fun _ => False) el cs ∧ ∃ k : K3, el = [.v (.int .i64 k.1), .v (.int .i64 k.2.1), .v (.bool k.2.2)] ∧ I64 k.1 ∧ I64 k.2.1 :=
 key_cells Tryz.underlying27 (by kernel_rfl) rfl rfl rfl (by kernel_rfl) (by kernel_rfl) (by kernel_rfl) Tryz.underlying3 Tryz.underlying3 Tryz.underlying4 n cs x h
set_option maxRecDepth 100000 in
theorem val_trod {H : Type} {enc : TypeId × Value → H} {W : World} (n : Nat) (cs : List Value) (x : DataW H × List MemPlace) (h : DataW.trod enc Tryz.prog W 0 (fun _ => true) true n 53 cs = some x) :
 ∃ el : List CV, CVRs W (fun _ => False) el cs ∧ ∃ v : V3, el = [.v (.int .i64 v.1), .v (.int .i64 v.2.1), .v (.string (bs v.2.2))] ∧ I64 v.1 ∧ I64 v.2.1 ∧ v.2.2.length ≤ maxLen :=
 val_cells Tryz.underlying53 (by kernel_rfl) rfl rfl rfl (by kernel_rfl) (by kernel_rfl) (by kernel_rfl) Tryz.underlying3 Tryz.underlying2 Tryz.underlying9 n cs x h
theorem all_ds {H : Type} {Q : List CV → Prop} {els : List (List CV)} {ds : List (DataW H)} (hl : ds.length = els.length) (h : ∀ (i : Nat) (el : List CV) (d : DataW H), els[i]? = some el → ds[i]? = some d → Q el) : ∀ el ∈ els, Q el := fun el he => by
 obtain ⟨i, h1, h2⟩ := List.getElem_of_mem he
 exact h i el (ds[i]'(by omega)) (by rw [List.getElem?_eq_getElem h1, h2]) (List.getElem?_eq_getElem (by omega))
set_option maxRecDepth 100000 in
theorem keys_trod {H : Type} {enc : TypeId × Value → H} {W : World} {n : Nat} {v : Value} {x : DataW H × List MemPlace} (h : DataW.trod enc Tryz.prog W 0 (fun _ => true) true n 23 [v] = some x) :
 ∃ K : List K3, CVR W (fun _ => False) (.vs (kc K)) v ∧ (∀ k ∈ K, KeyOk k) ∧ K.length ≤ maxLen := by
 obtain ⟨els, ds, l8, n8, hd, hQ, hbk⟩ := slice_cells2 Tryz.underlying23 (of_decide_eq_true (by kernel_rfl)) (fun el d => ∃ k : K3, el = [.v (.int .i64 k.1), .v (.int .i64 k.2.1), .v (.bool k.2.2)] ∧ I64 k.1 ∧ I64 k.2.1) (fun m _ cs y hy => key_trod m cs y hy) h
 obtain ⟨K, rfl, hK⟩ := keys_of (all_ds hd hQ)
 exact ⟨K, l8, hK, by rwa [kc_len] at n8⟩
set_option maxRecDepth 100000 in
theorem vals_trod {H : Type} {enc : TypeId × Value → H} {W : World} {n : Nat} {v : Value} {x : DataW H × List MemPlace} (h : DataW.trod enc Tryz.prog W 0 (fun _ => true) true n 36 [v] = some x) :
 ∃ L : List V3, CVR W (fun _ => False) (.vs (vc L)) v ∧ (∀ k ∈ L, ValOk k) ∧ L.length ≤ maxLen := by
 obtain ⟨els, ds, l8, n8, hd, hQ, hbk⟩ := slice_cells2 Tryz.underlying36 (of_decide_eq_true (by kernel_rfl)) (fun el d => ∃ v : V3, el = [.v (.int .i64 v.1), .v (.int .i64 v.2.1), .v (.string (bs v.2.2))] ∧ I64 v.1 ∧ I64 v.2.1 ∧ v.2.2.length ≤ maxLen) (fun m _ cs y hy => val_trod m cs y hy) h
 obtain ⟨K, rfl, hK⟩ := vals_of (all_ds hd hQ)
 exact ⟨K, l8, hK, by rwa [vc_len] at n8⟩
set_option maxRecDepth 100000 in
theorem exprs_trod {H : Type} {enc : TypeId × Value → H} {W : World} {n : Nat} {v : Value} {x : DataW H × List MemPlace} (h : DataW.trod enc Tryz.prog W 0 (fun _ => true) true n 22 [v] = some x) :
 ∃ l : List Xp, CVR W (fun _ => False) (.vs (xcs l)) v ∧ Xis l ∧ Xns l + 1 ≤ Rows.uptoBulk x.1 := by
 obtain ⟨els, ds, h1, h2, h3, h4, h5⟩ := slice_cells2 Tryz.underlying22 (of_decide_eq_true (by kernel_rfl)) (fun el d => ∃ e : Xp, el = e.cells ∧ Xi e ∧ Xn e ≤ Rows.uptoBulk d) (fun n _ cs y hy => by
  obtain ⟨e, r1, r2, r3⟩ := expr_cells n cs y hy
  exact ⟨e.cells, r1, e, rfl, r2, r3⟩) h
 obtain ⟨l, rfl, g2, g3⟩ := xps_of h3 h4
 exact ⟨l, h1, g2, by omega⟩
set_option maxRecDepth 100000 in
theorem cells_one {W : World} {v : Value} {t e : TypeId} (ht : Tryz.prog.underlying t = some (.slice e)) (hval : Value.okWide Tryz.prog W .any 0 t v) : v.cells.toList = [v] := by
 unfold Value.okWide at hval
 rw [ht] at hval
 simp only [] at hval
 cases v <;> first | rfl | (exfalso; unfold Cell.okWide Cell.ok at hval; rw [ht] at hval; exact hval)
set_option maxRecDepth 100000 in
theorem keys_arg {H : Type} {enc : TypeId × Value → H} {W : World} {v : Value} {d : DataW H} {ps : List MemPlace} (hval : Value.okWide Tryz.prog W .any 0 23 v) (h : DataW.Trod enc Tryz.prog W 0 (fun _ => true) true 23 v d ps) :
 ∃ K : List K3, CVR W (fun _ => False) (.vs (kc K)) v ∧ (∀ k ∈ K, KeyOk k) ∧ K.length ≤ maxLen := by
 obtain ⟨fuel, h⟩ := h
 rw [cells_one Tryz.underlying23 hval] at h
 exact keys_trod h
structure Cs where
 Eq : List Xp
 Lo : List Xp
 Hi : List Xp
 lo : Bool
 ho : Bool
 R : List V3
 Y : List V3
 K : List K3
def Cs.cells (c : Cs) : List CV := [.vs (xcs c.Eq), .vs (xcs c.Lo), .vs (xcs c.Hi), .v (.bool c.lo), .v (.bool c.ho), .vs (vc c.R), .vs (vc c.Y), .vs (kc c.K)]
def Cs.Ok (c : Cs) : Prop := Xis c.Eq ∧ Xis c.Lo ∧ Xis c.Hi ∧ (∀ v ∈ c.R, ValOk v) ∧ (∀ v ∈ c.Y, ValOk v) ∧ (∀ k ∈ c.K, KeyOk k) ∧ c.R.length ≤ maxLen ∧ c.Y.length ≤ maxLen ∧ c.K.length ≤ maxLen
set_option maxRecDepth 100000 in
theorem case_arg {H : Type} {enc : TypeId × Value → H} {W : World} {v : Value} {d : DataW H} {ps : List MemPlace} (h : DataW.Trod enc Tryz.prog W 0 (fun _ => true) true 38 v d ps) :
 ∃ c : Cs, DVR W (fun _ => False) (.agg c.cells) v ∧ c.Ok ∧ Xns c.Eq + Xns c.Lo + Xns c.Hi ≤ Rows.uptoBulk d := by
 obtain ⟨fuel, h⟩ := h
 obtain ⟨xs, k, hk, hx, hl, hxl, hf⟩ := DataW.trod_struct Tryz.underlying38 h
 simp only [Prod.mk.injEq] at hx
 obtain ⟨rfl, rfl⟩ := hx
 rw [show Tryz.prog.cellsOf 38 = 8 by kernel_rfl] at hl
 match hcs : v.cells.toList, hl, xs, hxl with
 | [a0, a1, a2, a3, a4, a5, a6, a7], _, [y0, y1, y2, y3], _ =>
  rw [hcs] at hf
  have cE : Tryz.prog.cellsOf 22 = 1 := by kernel_rfl
  have cK : Tryz.prog.cellsOf 23 = 1 := by kernel_rfl
  have cV : Tryz.prog.cellsOf 36 = 1 := by kernel_rfl
  have cB : Tryz.prog.cellsOf 4 = 1 := by kernel_rfl
  have cS : Tryz.prog.cellsOf 29 = 5 := by kernel_rfl
  have g0 := hf 0 _ rfl
  have g1 := hf 1 _ rfl
  have g2 := hf 2 _ rfl
  have g3 := hf 3 _ rfl
  simp [cE, cK, cV, cB, cS] at g0 g1 g2 g3
  obtain ⟨xs', k', hk', rfl, hl', hxl', hf'⟩ := DataW.trod_struct Tryz.underlying29 g0
  match xs', hxl' with
  | [z0, z1, z2, z3, z4], _ =>
   have m0 := hf' 0 _ rfl
   have m1 := hf' 1 _ rfl
   have m2 := hf' 2 _ rfl
   have m3 := hf' 3 _ rfl
   have m4 := hf' 4 _ rfl
   simp [cE, cK, cV, cB, cS] at m0 m1 m2 m3 m4
   obtain ⟨Eq, r0, x0, n0⟩ := exprs_trod m0
   obtain ⟨Lo, r1, x1, n1⟩ := exprs_trod m1
   obtain ⟨Hi, r2, x2, n2⟩ := exprs_trod m2
   obtain ⟨b3, e3, _⟩ := DataW.trod_bool Tryz.underlying4 m3
   obtain ⟨b4, e4, _⟩ := DataW.trod_bool Tryz.underlying4 m4
   obtain ⟨R, r5, q5, l5⟩ := vals_trod g1
   obtain ⟨Y, r6, q6, l6⟩ := vals_trod g2
   obtain ⟨K, r7, q7, l7⟩ := keys_trod g3
   simp only [List.cons.injEq, and_true] at e3 e4
   subst e3 e4
   refine ⟨⟨Eq, Lo, Hi, b3, b4, R, Y, K⟩, ?_, ⟨x0, x1, x2, q5, q6, q7, l5, l6, l7⟩, ?_⟩
   · simp only [DVR]
     cases v with
     | agg a =>
      refine ⟨a, rfl, ?_⟩
      have hcs : a.toList = _ := hcs
      rw [hcs]
      simp only [Cs.cells, CVRs]
      exact ⟨r0, r1, r2, .v _ rfl, .v _ rfl, r5, r6, r7, trivial⟩
     | _ => simp [Value.cells] at hcs
   · simp only [List.map_cons, List.map_nil, Rows.uptoBulk, Rows.uptoBulkAll]
     omega
end Go.Proofs.YtodjimecekaaeaaGreatDoor
namespace Go.Proofs.YtodjimecekaaeaaGreatDoor
open Go.RowKit Go.IntWalk
set_option linter.unusedSimpArgs false
set_option linter.unusedVariables false
theorem rtoldLoop (l : List Xp) (row : List V3) (hl : l.length ≤ 1073741824) (X : List (V3 × Int)) (hX : X.length = l.length) (hA : ∀ i (h : i < l.length), RvR row l[i] (X.getD i (nul, 0)))
 (Err : Bool → List (List CV) → Int → Int → Int → ByteArray → Int → Prop) (Fin : Bool → List (List CV) → Prop)
 (he : ∀ x6 x7 x8 x9 x10 x11, errV X ≠ 0 → Err x6 x7 x8 x9 x10 x11 (errV X)) (hf : errV X = 0 → Fin (nulB X) (vc (X.map (·.1)))) :
 (∃ I0 : Bool → List (List CV) → Int → Nat → Prop, (∃ k, I0 false ([] : List (List CV)) (0 : Int) k) ∧ ∀ k0 : Nat, ∀ x12 : Bool, ∀ x13 : List (List CV), ∀ x14 : Int, I0 x12 x13 x14 k0 → (((x14 < (((xcs l).length : Nat) : Int)) → ((0 ≤ x14 ∧ x14 < (((xcs l).length : Nat) : Int)) ∧ (([4, 10, 4, 4, 10, 10, 10, 4, 9, 9, 11] = (((((xcs l)).getD (x14).toNat []).drop 0).take 11).map kindC) ∧ (∃ x15 : Int, ∃ x16 : Int, ∃ x17 : ByteArray, ∃ x18 : Int, (FnC Tryz.prog 19 [(.agg [(.v (.int .i64 ((cellAt (xcs l) x14 0).int))), (.v (.string ((cellAt (xcs l) x14 1).str))), (.v (.int .i64 ((cellAt (xcs l) x14 2).int))), (.v (.int .i64 ((cellAt (xcs l) x14 3).int))), (.v (.string ((cellAt (xcs l) x14 4).str))), (.v (.string ((cellAt (xcs l) x14 5).str))), (.v (.string ((cellAt (xcs l) x14 6).str))), (.v (.int .i64 ((cellAt (xcs l) x14 7).int))), (.v (.bool ((cellAt (xcs l) x14 8).bool))), (.v (.bool ((cellAt (xcs l) x14 9).bool))), (.vs ((cellAt (xcs l) x14 10).els))]), (.c (.vs (vc row)))] (.tup [(.agg [(.v (.int .i64 x15)), (.v (.int .i64 x16)), (.v (.string x17))]), (.c (.v (.int .i64 x18)))])) ∧ (((¬ (x18 = (0 : Int))) → (Err x12 x13 x14 x15 x16 x17 x18)) ∧ (¬ (¬ (x18 = (0 : Int))) → (∀ x19 : List (List CV), x19 = [[(.v (.int .i64 x15)), (.v (.int .i64 x16)), (.v (.string x17))]] → ((0 ≤ (((x13.length : Nat) : Int) + ((x19.length : Nat) : Int)) ∧ (((x13.length : Nat) : Int) + ((x19.length : Nat) : Int)) * (32 : Nat) ≤ 140737488355328 ∧ (((x13.length : Nat) : Int) + ((x19.length : Nat) : Int)) ≤ 9223372036854775807) ∧ (∀ x20 : List (List CV), x20 = (x13 ++ x19) → (∃ k', k' < k0 ∧ I0 (if x12 then true else (x15 == (0 : Int))) x20 (IntKind.wrap .i64 (x14 + (1 : Int))) k')))))))))) ∧ (¬ (x14 < (((xcs l).length : Nat) : Int)) → (Fin x12 x13)))) := by
 refine ⟨fun a b i m => ∃ J : Nat, i = J ∧ J ≤ l.length ∧ m = l.length - J ∧ (∀ j, j < J → (X.getD j (nul, 0)).2 = 0) ∧ a = (nulB (X.take J)) ∧ b = vc ((X.take J).map (·.1)), ⟨_, 0, rfl, by omega, rfl, fun j h => absurd h (by omega), by simp [nulB], by simp [vc]⟩, ?_⟩
 rintro m a b i ⟨J, rfl, hJ, rfl, h0, rfl, rfl⟩
 rw [xcs_len]
 refine ⟨fun hi => ⟨by omega, xs_k l _ (by omega) hi, ?_⟩, fun hi => ?_⟩
 · have hj : J < l.length := by omega
   rw [xs_D l _ (by omega) hi, i64_in ((J : Int) + 1) (by omega)]
   simp only [Int.toNat_natCast]
   have hx := xr_take X J (by omega)
   refine ⟨_, _, _, _, hA J hj, fun h1 => ?_, fun h1 x13 e13 => ⟨?_, fun x14 e14 => ?_⟩⟩
   · have e := errV_at X J (by omega) h0 h1
     rw [← e]
     exact he _ _ _ _ _ _ (by rw [e]; exact h1)
   · rw [e13, vc_len, List.length_map, List.length_take]
     simp only [List.length_cons, List.length_nil]
     omega
   · refine ⟨l.length - (J + 1), by omega, J + 1, by omega, by omega, rfl, fun j hj2 => ?_, ?_, ?_⟩
     · by_cases c : j = J
       · subst c; simpa using h1
       · exact h0 j (by omega)
     · rw [hx]
       rw [nulB_snoc]
       exact ite_or _ _
     · rw [e14, e13, hx]
       simp [vc]
 · have e : J = l.length := by omega
   have h2 := errV_none X (fun j hj => h0 j (by omega))
   have := hf h2
   rw [e, ← hX, List.take_length]
   exact this
theorem len01 {α : Type} {l : List α} (h : l.length = 0 ∨ l.length = 1) : l = [] ∨ ∃ a, l = [a] := by
 match l, h with
 | [], _ => exact .inl rfl
 | [a], _ => exact .inr ⟨a, rfl⟩
 | _ :: _ :: _, h => simp at h
theorem getD_app {α : Type} (A B : List α) (i : Nat) (d : α) (h : A.length ≤ i) : (A ++ B).getD i d = B.getD (i - A.length) d := by
 rw [List.getD_eq_getElem?_getD, List.getElem?_append_right h, ← List.getD_eq_getElem?_getD]
theorem vc_one (L : List V3) (i : Int) (h0 : 0 ≤ i) (h : i < L.length) : [[CV.v (.int .i64 (cellAt (vc L) i 0).int), CV.v (.int .i64 (cellAt (vc L) i 1).int), CV.v (.string (cellAt (vc L) i 2).str)]] = vc [L.getD i.toNat nul] := by
 rw [vc_0 L i h0 h, vc_1 L i h0 h, vc_2 L i h0 h]
 rfl
theorem c_rBounds (Eq Lo Hi : List Xp) (lo ho : Bool) (row : List V3) (hE : Eq.length ≤ 1000000000) (Q L H : List (V3 × Int))
 (hQ : Q.length = Eq.length) (hL : L.length = (Lo.take 1).length) (hH : H.length = (Hi.take 1).length)
 (aX : ∀ i (h : i < (Eq ++ (Lo.take 1 ++ Hi.take 1)).length), RvR row (Eq ++ (Lo.take 1 ++ Hi.take 1))[i] ((Q ++ (L ++ H)).getD i (nul, 0))) :
 FnC Tryz.prog 15 [.agg [.vs (xcs Eq), .vs (xcs Lo), .vs (xcs Hi), .v (.bool lo), .v (.bool ho)], .c (.vs (vc row))] (boundsD (boundsX Q L H)) := by
 have fin0 : ∀ l : List Xp, l = Eq ++ (Lo.take 1 ++ Hi.take 1) → l.length = Eq.length + ((Lo.take 1).length + (Hi.take 1).length) := fun l e => by rw [e]; simp
 have lX : (Q ++ (L ++ H)).length = (Eq ++ (Lo.take 1 ++ Hi.take 1)).length := by simp [hQ, hL, hH]
 have tk : ((Q ++ (L ++ H)).map (·.1)).take Eq.length = Q.map (·.1) := by rw [List.map_append, ← hQ, List.take_append_of_le_length (by simp), List.take_of_length_le (by simp)]
 have err : ∀ r, errV (Q ++ (L ++ H)) ≠ 0 → r = errV (Q ++ (L ++ H)) → DV.tup [.c (.vs []), .c (.vs []), bD false, iD r] = boundsD (boundsX Q L H) := fun r h e => by
  rw [boundsX, if_pos h, e]; rfl
 have nn : errV (Q ++ (L ++ H)) = 0 → nulB (Q ++ (L ++ H)) = true → DV.tup [.c (.vs []), .c (.vs []), bD true, iD 0] = boundsD (boundsX Q L H) := fun h e => by
  rw [boundsX, if_neg (by omega), if_pos e]; rfl
 have yy : errV (Q ++ (L ++ H)) = 0 → ¬ nulB (Q ++ (L ++ H)) = true → DV.tup [.c (.vs (vc (Q.map (·.1) ++ L.map (·.1)))), .c (.vs (vc (Q.map (·.1) ++ H.map (·.1)))), bD false, iD 0] = boundsD (boundsX Q L H) := fun h e => by
  rw [boundsX, if_neg (by omega), if_neg e]; rfl
 have tl : ∀ M : List Xp, (M.take 1).length ≤ 1 := fun M => by rw [List.length_take]; omega
 have nl : ¬ (0 : Int) < (Lo.length : Nat) → L = [] := fun h => List.length_eq_zero_iff.1 (by rw [hL, List.length_take]; omega)
 have nh : ¬ (0 : Int) < (Hi.length : Nat) → H = [] := fun h => List.length_eq_zero_iff.1 (by rw [hH, List.length_take]; omega)
 have ql : (0 : Int) < (Lo.length : Nat) → ∃ q, L = [q] := fun h => List.length_eq_one_iff.1 (by rw [hL, List.length_take]; omega)
 have qh : (0 : Int) < (Hi.length : Nat) → ∃ q, H = [q] := fun h => List.length_eq_one_iff.1 (by rw [hH, List.length_take]; omega)
 have dl : (0 : Int) < (Lo.length : Nat) → [((Q ++ (L ++ H)).map (·.1)).getD Eq.length nul] = L.map (·.1) := fun h => by
  obtain ⟨q, rfl⟩ := ql h
  rw [List.map_append, getD_app _ _ _ _ (by simp [hQ])]
  simp [hQ]
 have dh : (0 : Int) < (Hi.length : Nat) → [((Q ++ (L ++ H)).map (·.1)).getD (((Q ++ (L ++ H)).map (·.1)).length - 1) nul] = H.map (·.1) := fun h => by
  obtain ⟨q, rfl⟩ := qh h
  rw [← List.append_assoc, List.map_append, getD_app _ _ _ _ (by simp)]
  simp
 generalize hX : Q ++ (L ++ H) = X at *
 have lV : (X.map (·.1)).length = Eq.length + ((Lo.take 1).length + (Hi.take 1).length) := by rw [List.length_map, lX]; simp
 refine w15 (xcs Eq) (xcs Lo) (xcs Hi) lo ho (vc row) ?_
 intro x6 e6
 subst e6
 simp only [xcs_len, List.length_nil, List.nil_append]
 refine ⟨xcs_sz _, by omega, fun x7 e7 => ?_⟩
 subst e7
 rw [xcs_len]
 have o1 : ∀ M : List Xp, (0 : Int) < (M.length : Nat) → [[CV.v (.int .i64 (cellAt (xcs M) 0 0).int), .v (.string (cellAt (xcs M) 0 1).str), .v (.int .i64 (cellAt (xcs M) 0 2).int), .v (.int .i64 (cellAt (xcs M) 0 3).int), .v (.string (cellAt (xcs M) 0 4).str), .v (.string (cellAt (xcs M) 0 5).str), .v (.string (cellAt (xcs M) 0 6).str), .v (.int .i64 (cellAt (xcs M) 0 7).int), .v (.bool (cellAt (xcs M) 0 8).bool), .v (.bool (cellAt (xcs M) 0 9).bool), .vs (cellAt (xcs M) 0 10).els]] = xcs (M.take 1) := fun M h => by
  rw [xs_one M 0 (by omega) h]
  match M, h with
  | m :: M, _ => rfl
  | [], h => simp at h
 have z1 : ∀ M : List Xp, ¬ (0 : Int) < (M.length : Nat) → M.take 1 = [] := fun M h => by rw [List.take_of_length_le (by omega)]; exact List.length_eq_zero_iff.1 (by omega)
 refine ⟨fun c1 => ⟨by omega, xcs_sz _, xs_k Lo 0 (by omega) c1, fun x8 e8 => ?_⟩, fun c1 => ⟨fun c2 => ⟨by omega, xcs_sz _, xs_k Hi 0 (by omega) c2, fun x10 e10 => ?_⟩, fun c2 => ?_⟩⟩
 · rw [o1 Lo c1] at e8
   subst e8
   rw [xcs_len]
   have t1 := tl Lo
   refine ⟨by omega, fun x9 e9 => ⟨fun c2 => ⟨by omega, xcs_sz _, xs_k Hi 0 (by omega) c2, fun x10 e10 => ?_⟩, fun c2 => ?_⟩⟩
   · rw [o1 Hi c2] at e10
     subst e10 e9
     have t2 := tl Hi
     rw [← xcs_app, xcs_len, xcs_len, List.length_append]
     refine ⟨by omega, fun x11 e11 => ?_⟩
     rw [← xcs_app, List.append_assoc] at e11
     subst e11
     refine rtoldLoop _ row (by simp only [List.length_append]; omega) X lX aX _ _ ?_ ?_
     · exact fun _ _ _ _ _ _ h => err _ h rfl
     · intro h
       have yy' := yy h
       simp only [vc_len, lV]
       have t1 := tl Lo
       have t2 := tl Hi
       rw [i64_in (((Eq.length + ((Lo.take 1).length + (Hi.take 1).length) : Nat) : Int) - 1) (by omega)]
       refine ⟨nn h, fun g => ⟨by omega, fun x15 e15 => ?_⟩⟩
       have yg := yy' g
       subst e15
       simp only [List.length_nil, List.nil_append]
       refine ⟨by omega, by omega, fun x16 e16 x17 e17 => ?_⟩
       subst e17
       simp only [List.length_nil, List.nil_append]
       refine ⟨by omega, by omega, fun x18 e18 => ?_⟩
       have q16 : x16 = vc (Q.map (·.1)) := by rw [e16, Int.toNat_natCast, vc_take, tk]
       have q18 : x18 = vc (Q.map (·.1)) := by rw [e18, Int.toNat_natCast, vc_take, tk]
       have l16 : x16.length = Eq.length := by rw [q16, vc_len, List.length_map, hQ]
       have l18 : x18.length = Eq.length := by rw [q18, vc_len, List.length_map, hQ]
       have nV : ((((Eq.length + ((Lo.take 1).length + (Hi.take 1).length) : Nat) : Int) - 1)).toNat = (X.map (·.1)).length - 1 := by rw [lV]; omega
       clear e16 e18
       have two : (0 : Int) < (Lo.length : Nat) → (0 : Int) < (Lo.take 1).length := fun d => by rw [List.length_take]; omega
       have twh : (0 : Int) < (Hi.length : Nat) → (0 : Int) < (Hi.take 1).length := fun d => by rw [List.length_take]; omega
       refine ⟨fun d1 => ⟨by have := two d1; omega, vc_k _ _ (by omega) (by have := two d1; rw [lV]; omega), fun x19 e19 => ?_⟩, fun d1 => ⟨fun d2 => ⟨by have := twh d2; omega, vc_k _ _ (by have := twh d2; omega) (by have := twh d2; rw [lV]; omega), fun x19 e19 => ?_⟩, fun d2 => ?_⟩⟩
       · rw [vc_one _ _ (by omega) (by have := two d1; rw [lV]; omega), Int.toNat_natCast, dl d1] at e19
         have l19 : x19.length ≤ 1 := by rw [e19, vc_len, List.length_map, hL]; exact t1
         refine ⟨by omega, fun x20 e20 => ⟨fun d2 => ⟨by have := twh d2; omega, vc_k _ _ (by have := twh d2; omega) (by have := twh d2; rw [lV]; omega), fun x21 e21 => ?_⟩, fun d2 => ?_⟩⟩
         · rw [vc_one _ _ (by have := twh d2; omega) (by have := twh d2; rw [lV]; omega), nV, dh d2] at e21
           have l21 : x21.length ≤ 1 := by rw [e21, vc_len, List.length_map, hH]; exact t2
           refine ⟨by omega, fun x22 e22 => ?_⟩
           rw [e22, e20, e21, e19, q16, q18, vc_app, vc_app]
           exact yg
         · have e := nh d2
           subst e
           rw [List.map_nil, List.append_nil] at yg
           rw [e20, e19, q16, q18, vc_app]
           exact yg
       · rw [vc_one _ _ (by have := twh d2; omega) (by have := twh d2; rw [lV]; omega), nV, dh d2] at e19
         have l19 : x19.length ≤ 1 := by rw [e19, vc_len, List.length_map, hH]; exact t2
         refine ⟨by omega, fun x20 e20 => ?_⟩
         have e := nl d1
         subst e
         rw [List.map_nil, List.append_nil] at yg
         rw [e20, e19, q16, q18, vc_app]
         exact yg
       · have e := nl d1
         have e' := nh d2
         subst e e'
         rw [List.map_nil, List.append_nil] at yg
         rw [q16, q18]
         exact yg
   · have t2 : (Hi.take 1).length = 0 := by rw [z1 Hi c2]; rfl
     have e9' : x9 = xcs (Eq ++ (Lo.take 1 ++ Hi.take 1)) := by rw [e9, z1 Hi c2, List.append_nil, xcs_app]
     rw [e9']
     refine rtoldLoop _ row (by simp only [List.length_append]; omega) X lX aX _ _ ?_ ?_
     · exact fun _ _ _ _ _ _ h => err _ h rfl
     · intro h
       have yy' := yy h
       simp only [vc_len, lV]
       have t1 := tl Lo
       have t2 := tl Hi
       rw [i64_in (((Eq.length + ((Lo.take 1).length + (Hi.take 1).length) : Nat) : Int) - 1) (by omega)]
       refine ⟨nn h, fun g => ⟨by omega, fun x15 e15 => ?_⟩⟩
       have yg := yy' g
       subst e15
       simp only [List.length_nil, List.nil_append]
       refine ⟨by omega, by omega, fun x16 e16 x17 e17 => ?_⟩
       subst e17
       simp only [List.length_nil, List.nil_append]
       refine ⟨by omega, by omega, fun x18 e18 => ?_⟩
       have q16 : x16 = vc (Q.map (·.1)) := by rw [e16, Int.toNat_natCast, vc_take, tk]
       have q18 : x18 = vc (Q.map (·.1)) := by rw [e18, Int.toNat_natCast, vc_take, tk]
       have l16 : x16.length = Eq.length := by rw [q16, vc_len, List.length_map, hQ]
       have l18 : x18.length = Eq.length := by rw [q18, vc_len, List.length_map, hQ]
       have nV : ((((Eq.length + ((Lo.take 1).length + (Hi.take 1).length) : Nat) : Int) - 1)).toNat = (X.map (·.1)).length - 1 := by rw [lV]; omega
       clear e16 e18
       have two : (0 : Int) < (Lo.length : Nat) → (0 : Int) < (Lo.take 1).length := fun d => by rw [List.length_take]; omega
       have twh : (0 : Int) < (Hi.length : Nat) → (0 : Int) < (Hi.take 1).length := fun d => by rw [List.length_take]; omega
       refine ⟨fun d1 => ⟨by have := two d1; omega, vc_k _ _ (by omega) (by have := two d1; rw [lV]; omega), fun x19 e19 => ?_⟩, fun d1 => ⟨fun d2 => ⟨by have := twh d2; omega, vc_k _ _ (by have := twh d2; omega) (by have := twh d2; rw [lV]; omega), fun x19 e19 => ?_⟩, fun d2 => ?_⟩⟩
       · rw [vc_one _ _ (by omega) (by have := two d1; rw [lV]; omega), Int.toNat_natCast, dl d1] at e19
         have l19 : x19.length ≤ 1 := by rw [e19, vc_len, List.length_map, hL]; exact t1
         refine ⟨by omega, fun x20 e20 => ⟨fun d2 => ⟨by have := twh d2; omega, vc_k _ _ (by have := twh d2; omega) (by have := twh d2; rw [lV]; omega), fun x21 e21 => ?_⟩, fun d2 => ?_⟩⟩
         · rw [vc_one _ _ (by have := twh d2; omega) (by have := twh d2; rw [lV]; omega), nV, dh d2] at e21
           have l21 : x21.length ≤ 1 := by rw [e21, vc_len, List.length_map, hH]; exact t2
           refine ⟨by omega, fun x22 e22 => ?_⟩
           rw [e22, e20, e21, e19, q16, q18, vc_app, vc_app]
           exact yg
         · have e := nh d2
           subst e
           rw [List.map_nil, List.append_nil] at yg
           rw [e20, e19, q16, q18, vc_app]
           exact yg
       · rw [vc_one _ _ (by have := twh d2; omega) (by have := twh d2; rw [lV]; omega), nV, dh d2] at e19
         have l19 : x19.length ≤ 1 := by rw [e19, vc_len, List.length_map, hH]; exact t2
         refine ⟨by omega, fun x20 e20 => ?_⟩
         have e := nl d1
         subst e
         rw [List.map_nil, List.append_nil] at yg
         rw [e20, e19, q16, q18, vc_app]
         exact yg
       · have e := nl d1
         have e' := nh d2
         subst e e'
         rw [List.map_nil, List.append_nil] at yg
         rw [q16, q18]
         exact yg
 · rw [o1 Hi c2] at e10
   subst e10
   rw [xcs_len]
   have t2 := tl Hi
   refine ⟨by omega, fun x11 e11 => ?_⟩
   have e9' : x11 = xcs (Eq ++ (Lo.take 1 ++ Hi.take 1)) := by rw [e11, z1 Lo c1, List.nil_append, xcs_app]
   have t1 : (Lo.take 1).length = 0 := by rw [z1 Lo c1]; rfl
   rw [e9']
   refine rtoldLoop _ row (by simp only [List.length_append]; omega) X lX aX _ _ ?_ ?_
   · exact fun _ _ _ _ _ _ h => err _ h rfl
   · intro h
     have yy' := yy h
     simp only [vc_len, lV]
     have t1 := tl Lo
     have t2 := tl Hi
     rw [i64_in (((Eq.length + ((Lo.take 1).length + (Hi.take 1).length) : Nat) : Int) - 1) (by omega)]
     refine ⟨nn h, fun g => ⟨by omega, fun x15 e15 => ?_⟩⟩
     have yg := yy' g
     subst e15
     simp only [List.length_nil, List.nil_append]
     refine ⟨by omega, by omega, fun x16 e16 x17 e17 => ?_⟩
     subst e17
     simp only [List.length_nil, List.nil_append]
     refine ⟨by omega, by omega, fun x18 e18 => ?_⟩
     have q16 : x16 = vc (Q.map (·.1)) := by rw [e16, Int.toNat_natCast, vc_take, tk]
     have q18 : x18 = vc (Q.map (·.1)) := by rw [e18, Int.toNat_natCast, vc_take, tk]
     have l16 : x16.length = Eq.length := by rw [q16, vc_len, List.length_map, hQ]
     have l18 : x18.length = Eq.length := by rw [q18, vc_len, List.length_map, hQ]
     have nV : ((((Eq.length + ((Lo.take 1).length + (Hi.take 1).length) : Nat) : Int) - 1)).toNat = (X.map (·.1)).length - 1 := by rw [lV]; omega
     clear e16 e18
     have two : (0 : Int) < (Lo.length : Nat) → (0 : Int) < (Lo.take 1).length := fun d => by rw [List.length_take]; omega
     have twh : (0 : Int) < (Hi.length : Nat) → (0 : Int) < (Hi.take 1).length := fun d => by rw [List.length_take]; omega
     refine ⟨fun d1 => ⟨by have := two d1; omega, vc_k _ _ (by omega) (by have := two d1; rw [lV]; omega), fun x19 e19 => ?_⟩, fun d1 => ⟨fun d2 => ⟨by have := twh d2; omega, vc_k _ _ (by have := twh d2; omega) (by have := twh d2; rw [lV]; omega), fun x19 e19 => ?_⟩, fun d2 => ?_⟩⟩
     · rw [vc_one _ _ (by omega) (by have := two d1; rw [lV]; omega), Int.toNat_natCast, dl d1] at e19
       have l19 : x19.length ≤ 1 := by rw [e19, vc_len, List.length_map, hL]; exact t1
       refine ⟨by omega, fun x20 e20 => ⟨fun d2 => ⟨by have := twh d2; omega, vc_k _ _ (by have := twh d2; omega) (by have := twh d2; rw [lV]; omega), fun x21 e21 => ?_⟩, fun d2 => ?_⟩⟩
       · rw [vc_one _ _ (by have := twh d2; omega) (by have := twh d2; rw [lV]; omega), nV, dh d2] at e21
         have l21 : x21.length ≤ 1 := by rw [e21, vc_len, List.length_map, hH]; exact t2
         refine ⟨by omega, fun x22 e22 => ?_⟩
         rw [e22, e20, e21, e19, q16, q18, vc_app, vc_app]
         exact yg
       · have e := nh d2
         subst e
         rw [List.map_nil, List.append_nil] at yg
         rw [e20, e19, q16, q18, vc_app]
         exact yg
     · rw [vc_one _ _ (by have := twh d2; omega) (by have := twh d2; rw [lV]; omega), nV, dh d2] at e19
       have l19 : x19.length ≤ 1 := by rw [e19, vc_len, List.length_map, hH]; exact t2
       refine ⟨by omega, fun x20 e20 => ?_⟩
       have e := nl d1
       subst e
       rw [List.map_nil, List.append_nil] at yg
       rw [e20, e19, q16, q18, vc_app]
       exact yg
     · have e := nl d1
       have e' := nh d2
       subst e e'
       rw [List.map_nil, List.append_nil] at yg
       rw [q16, q18]
       exact yg
 · have t1 : (Lo.take 1).length = 0 := by rw [z1 Lo c1]; rfl
   have t2 : (Hi.take 1).length = 0 := by rw [z1 Hi c2]; rfl
   have aX' : ∀ i (h : i < Eq.length), RvR row Eq[i] (X.getD i (nul, 0)) := fun i h => by
    have := aX i (by simp only [List.length_append]; omega)
    rw [List.getElem_append_left h] at this
    exact this
   rw [← xcs_len Eq]
   refine rtoldLoop Eq row (by omega) X (by rw [lX]; simp only [List.length_append]; omega) aX' _ _ ?_ ?_
   · exact fun _ _ _ _ _ _ h => err _ h rfl
   · intro h
     have yy' := yy h
     simp only [vc_len, xcs_len, lV]
     have t1 := tl Lo
     have t2 := tl Hi
     rw [i64_in (((Eq.length + ((Lo.take 1).length + (Hi.take 1).length) : Nat) : Int) - 1) (by omega)]
     refine ⟨nn h, fun g => ⟨by omega, fun x15 e15 => ?_⟩⟩
     have yg := yy' g
     subst e15
     simp only [List.length_nil, List.nil_append]
     refine ⟨by omega, by omega, fun x16 e16 x17 e17 => ?_⟩
     subst e17
     simp only [List.length_nil, List.nil_append]
     refine ⟨by omega, by omega, fun x18 e18 => ?_⟩
     have q16 : x16 = vc (Q.map (·.1)) := by rw [e16, Int.toNat_natCast, vc_take, tk]
     have q18 : x18 = vc (Q.map (·.1)) := by rw [e18, Int.toNat_natCast, vc_take, tk]
     have l16 : x16.length = Eq.length := by rw [q16, vc_len, List.length_map, hQ]
     have l18 : x18.length = Eq.length := by rw [q18, vc_len, List.length_map, hQ]
     have nV : ((((Eq.length + ((Lo.take 1).length + (Hi.take 1).length) : Nat) : Int) - 1)).toNat = (X.map (·.1)).length - 1 := by rw [lV]; omega
     clear e16 e18
     have two : (0 : Int) < (Lo.length : Nat) → (0 : Int) < (Lo.take 1).length := fun d => by rw [List.length_take]; omega
     have twh : (0 : Int) < (Hi.length : Nat) → (0 : Int) < (Hi.take 1).length := fun d => by rw [List.length_take]; omega
     refine ⟨fun d1 => ⟨by have := two d1; omega, vc_k _ _ (by omega) (by have := two d1; rw [lV]; omega), fun x19 e19 => ?_⟩, fun d1 => ⟨fun d2 => ⟨by have := twh d2; omega, vc_k _ _ (by have := twh d2; omega) (by have := twh d2; rw [lV]; omega), fun x19 e19 => ?_⟩, fun d2 => ?_⟩⟩
     · rw [vc_one _ _ (by omega) (by have := two d1; rw [lV]; omega), Int.toNat_natCast, dl d1] at e19
       have l19 : x19.length ≤ 1 := by rw [e19, vc_len, List.length_map, hL]; exact t1
       refine ⟨by omega, fun x20 e20 => ⟨fun d2 => ⟨by have := twh d2; omega, vc_k _ _ (by have := twh d2; omega) (by have := twh d2; rw [lV]; omega), fun x21 e21 => ?_⟩, fun d2 => ?_⟩⟩
       · rw [vc_one _ _ (by have := twh d2; omega) (by have := twh d2; rw [lV]; omega), nV, dh d2] at e21
         have l21 : x21.length ≤ 1 := by rw [e21, vc_len, List.length_map, hH]; exact t2
         refine ⟨by omega, fun x22 e22 => ?_⟩
         rw [e22, e20, e21, e19, q16, q18, vc_app, vc_app]
         exact yg
       · have e := nh d2
         subst e
         rw [List.map_nil, List.append_nil] at yg
         rw [e20, e19, q16, q18, vc_app]
         exact yg
     · rw [vc_one _ _ (by have := twh d2; omega) (by have := twh d2; rw [lV]; omega), nV, dh d2] at e19
       have l19 : x19.length ≤ 1 := by rw [e19, vc_len, List.length_map, hH]; exact t2
       refine ⟨by omega, fun x20 e20 => ?_⟩
       have e := nl d1
       subst e
       rw [List.map_nil, List.append_nil] at yg
       rw [e20, e19, q16, q18, vc_app]
       exact yg
     · have e := nl d1
       have e' := nh d2
       subst e e'
       rw [List.map_nil, List.append_nil] at yg
       rw [q16, q18]
       exact yg
end Go.Proofs.YtodjimecekaaeaaGreatDoor
namespace Go.Proofs.YtodjimecekaaeaaGreatDoor
open Go.RowKit Go.IntWalk
set_option linter.unusedSimpArgs false
set_option linter.unusedVariables false
abbrev BR := List V3 × List V3 × Bool × Int
def cAt (Y V : List V3) (K : List K3) (i : Nat) : Int := cmpV (Y.getD i nul) (V.getD i nul) (K.getD i knul).2.1
def eqN (Y V : List V3) (K : List K3) (n : Nat) : Bool := (List.range n).all fun i => decide (cAt Y V K i = 0)
def inX (r : BR) (n : Nat) (lo ho : Bool) (Y : List V3) (K : List K3) : Bool × Int :=
 if r.2.2.2 ≠ 0 ∨ r.2.2.1 = true then (false, r.2.2.2)
 else if eqN Y r.1 K n = false then (false, 0)
 else if r.1.length = n ∧ r.2.1.length = n then (true, 0)
 else if (Y.getD n nul).1 = 0 then (false, 0)
 else if n < r.1.length ∧ (cAt Y r.1 K n < 0 ∨ (cAt Y r.1 K n = 0 ∧ lo = true)) then (false, 0)
 else if n < r.2.1.length ∧ (0 < cAt Y r.2.1 K n ∨ (cAt Y r.2.1 K n = 0 ∧ ho = true)) then (false, 0)
 else (true, 0)
def inD (r : Bool × Int) : DV := .tup [bD r.1, iD r.2]
def Szs (L : List V3) : Prop := ∀ v ∈ L, Sz v.2.2
theorem Szs.at {L : List V3} (h : Szs L) (i : Nat) : Sz (L.getD i nul).2.2 := by
 by_cases c : i < L.length
 · rw [List.getD_eq_getElem?_getD, List.getElem?_eq_getElem c]
   exact h _ (List.getElem_mem c)
 · rw [List.getD_eq_getElem?_getD, List.getElem?_eq_none (by omega)]
   unfold Sz; simp
theorem nul_at (L : List V3) (i : Nat) (h : ¬ i < L.length) : L.getD i nul = nul := by
 rw [List.getD_eq_getElem?_getD, List.getElem?_eq_none (by omega)]; rfl
theorem knul_at (K : List K3) (i : Nat) (h : ¬ i < K.length) : K.getD i knul = knul := by
 rw [List.getD_eq_getElem?_getD, List.getElem?_eq_none (by omega)]; rfl
theorem eqN_not {Y V : List V3} {K : List K3} {n J : Nat} (hJ : J < n) (h : cAt Y V K J ≠ 0) : eqN Y V K n = false := by
 unfold eqN
 rw [← Bool.not_eq_true, List.all_eq_true]
 intro g
 exact h (of_decide_eq_true (g J (List.mem_range.2 hJ)))
theorem eqN_yes {Y V : List V3} {K : List K3} {n : Nat} (h : ∀ j, j < n → cAt Y V K j = 0) : eqN Y V K n = true := by
 unfold eqN
 rw [List.all_eq_true]
 intro j hj
 exact decide_eq_true (h j (List.mem_range.1 hj))
theorem boundsX_len (Q L H : List (V3 × Int)) (h : ¬ ((boundsX Q L H).2.2.2 ≠ 0 ∨ (boundsX Q L H).2.2.1 = true)) : (boundsX Q L H).1.length = Q.length + L.length ∧ (boundsX Q L H).2.1.length = Q.length + H.length := by
 revert h
 unfold boundsX
 split
 · rename_i g
   intro h
   exact absurd (.inl g) h
 · split
   · intro h
     exact absurd (.inr rfl) h
   · intro _
     simp
theorem boundsX_szs (Q L H : List (V3 × Int)) (h : ∀ x ∈ Q ++ (L ++ H), Sz x.1.2.2) : Szs (boundsX Q L H).1 ∧ Szs (boundsX Q L H).2.1 := by
 unfold boundsX Szs
 repeat' split
 · simp
 · simp
 · refine ⟨fun v hv => ?_, fun v hv => ?_⟩ <;> simp only [List.mem_append, List.mem_map] at hv <;> (rcases hv with ⟨x, hx, rfl⟩ | ⟨x, hx, rfl⟩) <;> exact h x (by simp [hx])
theorem c_rAt (Y : List V3) (i : Nat) : FnC Tryz.prog 35 [.c (.vs (vc Y)), iD i] (vD (Y.getD i nul)) := by
 refine w35 (vc Y) i ?_
 rw [vc_len]
 refine ⟨fun h => ⟨by omega, vc_sz _, vc_k _ _ (by omega) h, ?_⟩, fun h => ?_⟩
 · rw [vc_vD _ _ (by omega) h, Int.toNat_natCast]
 · rw [nul_at Y i (by omega)]; rfl
theorem c_rHold (Y V : List V3) (K : List K3) (i : Nat) (hi : i < V.length) (hY : Szs Y) (hV : Szs V) : FnC Tryz.prog 34 [.c (.vs (vc Y)), .c (.vs (vc V)), .c (.vs (kc K)), iD i] (iD (cAt Y V K i)) := by
 refine w34 (vc Y) (vc V) (kc K) i ?_
 rw [vc_len, kc_len]
 have c := c_r4Compare (Y.getD i nul) (V.getD i nul) (K.getD i knul).2.1 (hY.at i) (hV.at i)
 rw [vc_vD V i (by omega) (by omega), Int.toNat_natCast]
 refine ⟨fun h => ⟨by omega, kc_sz _, kc_k1 _ _ (by omega) h, _, _, _, c_rAt Y i, by omega, vc_sz _, vc_k V i (by omega) (by omega), _, ?_, rfl⟩, fun h => ⟨_, _, _, c_rAt Y i, by omega, vc_sz _, vc_k V i (by omega) (by omega), _, ?_, rfl⟩⟩
 · rw [kc_1 K _ (by omega) h, Int.toNat_natCast]
   exact c
 · rw [knul_at K i (by omega)] at c
   unfold cAt
   rw [knul_at K i (by omega)]
   exact c
theorem c_rIn (Eq Lo Hi : List Xp) (lo ho : Bool) (row Y : List V3) (K : List K3) (r : BR) (hE : Eq.length ≤ 1000000000)
 (hb : FnC Tryz.prog 15 [.agg [.vs (xcs Eq), .vs (xcs Lo), .vs (xcs Hi), .v (.bool lo), .v (.bool ho)], .c (.vs (vc row))] (boundsD r))
 (hl : ¬ (r.2.2.2 ≠ 0 ∨ r.2.2.1 = true) → Eq.length ≤ r.1.length ∧ Eq.length ≤ r.2.1.length) (hY : Szs Y) (h1 : Szs r.1) (h2 : Szs r.2.1) :
 FnC Tryz.prog 17 [.agg [.vs (xcs Eq), .vs (xcs Lo), .vs (xcs Hi), .v (.bool lo), .v (.bool ho)], .c (.vs (vc row)), .c (.vs (vc Y)), .c (.vs (kc K))] (inD (inX r Eq.length lo ho Y K)) := by
 refine w17 (xcs Eq) (xcs Lo) (xcs Hi) lo ho (vc row) (vc Y) (kc K) ?_
 simp only [xcs_len, vc_len]
 refine ⟨_, _, _, _, hb, fun h => ?_, fun h => ?_⟩
 · rw [inX, if_pos h]; rfl
 obtain ⟨l1, l2⟩ := hl h
 simp only [vc_len]
 refine ⟨fun i m => ∃ J : Nat, i = J ∧ J ≤ Eq.length ∧ m = Eq.length - J ∧ ∀ j, j < J → cAt Y r.1 K j = 0, ⟨_, 0, rfl, by omega, rfl, fun j h => absurd h (by omega)⟩, ?_⟩
 rintro m i ⟨J, rfl, hJ, rfl, h0⟩
 refine ⟨fun hi => ⟨_, c_rHold Y r.1 K J (by omega) hY h1, fun g => ?_, fun g => ⟨Eq.length - (J + 1), by omega, J + 1, by rw [i64_in _ (by omega)]; omega, by omega, rfl, fun j hj => ?_⟩⟩, fun hi => ?_⟩
 · rw [inX, if_neg h, if_pos (eqN_not (by omega : J < Eq.length) g)]; rfl
 · by_cases c : j = J
   · subst c; simpa using g
   · exact h0 j (by omega)
 · have hE2 : J = Eq.length := by omega
   subst hE2
   have he := eqN_yes h0
   have base : inX r Eq.length lo ho Y K = if r.1.length = Eq.length ∧ r.2.1.length = Eq.length then (true, 0) else if (Y.getD Eq.length nul).1 = 0 then (false, 0) else if Eq.length < r.1.length ∧ (cAt Y r.1 K Eq.length < 0 ∨ (cAt Y r.1 K Eq.length = 0 ∧ lo = true)) then (false, 0) else if Eq.length < r.2.1.length ∧ (0 < cAt Y r.2.1 K Eq.length ∨ (cAt Y r.2.1 K Eq.length = 0 ∧ ho = true)) then (false, 0) else (true, 0) := by
    rw [inX, if_neg h, if_neg (by rw [he]; simp)]
   rw [base]
   refine ⟨fun g => by rw [if_pos ⟨by omega, by omega⟩]; rfl, fun g => ?_⟩
   rw [if_neg (fun e => g ⟨by omega, by omega⟩)]
   refine ⟨_, _, _, c_rAt Y Eq.length, fun g2 => by rw [if_pos g2]; rfl, fun g2 => ?_⟩
   rw [if_neg g2]
   refine ⟨fun d1 => ⟨_, c_rHold Y r.1 K Eq.length (by omega) hY h1, fun g3 => by rw [if_pos ⟨by omega, g3⟩]; rfl, fun g3 => ?_⟩, fun d1 => ?_⟩
   · rw [if_neg (fun e => g3 e.2)]
     exact ⟨fun d2 => ⟨_, c_rHold Y r.2.1 K Eq.length (by omega) hY h2, fun g4 => by rw [if_pos ⟨by omega, g4⟩]; rfl, fun g4 => by rw [if_neg (fun e => g4 e.2)]; rfl⟩, fun d2 => by rw [if_neg (fun e => d2 (by omega))]; rfl⟩
   · rw [if_neg (fun e => d1 (by omega))]
     exact ⟨fun d2 => ⟨_, c_rHold Y r.2.1 K Eq.length (by omega) hY h2, fun g4 => by rw [if_pos ⟨by omega, g4⟩]; rfl, fun g4 => by rw [if_neg (fun e => g4 e.2)]; rfl⟩, fun d2 => by rw [if_neg (fun e => d2 (by omega))]; rfl⟩
theorem c_at (Y V : List V3) (K : List K3) (i : Nat) (hY : Szs Y) (hV : Szs V) : FnC Tryz.prog 33 [vD (Y.getD i nul), vD (V.getD i nul), iD (K.getD i knul).2.1] (iD (cAt Y V K i)) := c_vCompare _ _ _ (hY.at i) (hV.at i)
section
variable (Y V : List V3) (K : List K3) (i : Nat) (hY : Szs Y) (hV : Szs V) (hi : i < V.length)
include hY hV hi
theorem c_at11 (hy : i < Y.length) (hk : i < K.length) : FnC Tryz.prog 33 [.agg [.v (.int .i64 (cellAt (vc Y) i 0).int), .v (.int .i64 (cellAt (vc Y) i 1).int), .v (.string (cellAt (vc Y) i 2).str)], .agg [.v (.int .i64 (cellAt (vc V) i 0).int), .v (.int .i64 (cellAt (vc V) i 1).int), .v (.string (cellAt (vc V) i 2).str)], iD (cellAt (kc K) i 1).int] (iD (cAt Y V K i)) := by
 rw [vc_vD Y i (by omega) (by omega), vc_vD V i (by omega) (by omega), kc_1 K i (by omega) (by omega), Int.toNat_natCast]
 exact c_at Y V K i hY hV
theorem c_at10 (hy : i < Y.length) (hk : ¬ i < K.length) : FnC Tryz.prog 33 [.agg [.v (.int .i64 (cellAt (vc Y) i 0).int), .v (.int .i64 (cellAt (vc Y) i 1).int), .v (.string (cellAt (vc Y) i 2).str)], .agg [.v (.int .i64 (cellAt (vc V) i 0).int), .v (.int .i64 (cellAt (vc V) i 1).int), .v (.string (cellAt (vc V) i 2).str)], iD 0] (iD (cAt Y V K i)) := by
 have := c_at Y V K i hY hV
 rw [knul_at K i hk] at this
 rw [vc_vD Y i (by omega) (by omega), vc_vD V i (by omega) (by omega), Int.toNat_natCast]
 exact this
theorem c_at01 (hy : ¬ i < Y.length) (hk : i < K.length) : FnC Tryz.prog 33 [.agg [.v (.int .i64 0), .v (.int .i64 0), .v (.string ⟨#[]⟩)], .agg [.v (.int .i64 (cellAt (vc V) i 0).int), .v (.int .i64 (cellAt (vc V) i 1).int), .v (.string (cellAt (vc V) i 2).str)], iD (cellAt (kc K) i 1).int] (iD (cAt Y V K i)) := by
 have := c_at Y V K i hY hV
 rw [nul_at Y i hy] at this
 rw [vc_vD V i (by omega) (by omega), kc_1 K i (by omega) (by omega), Int.toNat_natCast]
 exact this
theorem c_at00 (hy : ¬ i < Y.length) (hk : ¬ i < K.length) : FnC Tryz.prog 33 [.agg [.v (.int .i64 0), .v (.int .i64 0), .v (.string ⟨#[]⟩)], .agg [.v (.int .i64 (cellAt (vc V) i 0).int), .v (.int .i64 (cellAt (vc V) i 1).int), .v (.string (cellAt (vc V) i 2).str)], iD 0] (iD (cAt Y V K i)) := by
 have := c_at Y V K i hY hV
 rw [nul_at Y i hy, knul_at K i hk] at this
 rw [vc_vD V i (by omega) (by omega), Int.toNat_natCast]
 exact this
end
theorem c_spIn (Eq Lo Hi : List Xp) (lo ho : Bool) (row Y : List V3) (K : List K3) (r : BR) (hE : Eq.length ≤ 1000000000) (hL2 : Lo.length ≤ 1000000000) (hH2 : Hi.length ≤ 1000000000)
 (hb : FnC Tryz.prog 14 [.agg [.vs (xcs Eq), .vs (xcs Lo), .vs (xcs Hi), .v (.bool lo), .v (.bool ho)], .c (.vs (vc row))] (boundsD r))
 (hl : ¬ (r.2.2.2 ≠ 0 ∨ r.2.2.1 = true) → r.1.length = Eq.length + (Lo.take 1).length ∧ r.2.1.length = Eq.length + (Hi.take 1).length) (hY : Szs Y) (h1 : Szs r.1) (h2 : Szs r.2.1) :
 FnC Tryz.prog 16 [.agg [.vs (xcs Eq), .vs (xcs Lo), .vs (xcs Hi), .v (.bool lo), .v (.bool ho)], .c (.vs (vc row)), .c (.vs (vc Y)), .c (.vs (kc K))] (inD (inX r Eq.length lo ho Y K)) := by
 refine w16 (xcs Eq) (xcs Lo) (xcs Hi) lo ho (vc row) (vc Y) (kc K) ?_
 simp only [xcs_len, vc_len, kc_len]
 refine ⟨_, _, _, _, hb, fun h => ?_, fun h => ?_⟩
 · rw [inX, if_pos h]; rfl
 obtain ⟨l1, l2⟩ := hl h
 simp only [vc_len]
 refine ⟨fun i m => ∃ J : Nat, i = J ∧ J ≤ Eq.length ∧ m = Eq.length - J ∧ ∀ j, j < J → cAt Y r.1 K j = 0, ⟨_, 0, rfl, by omega, rfl, fun j h => absurd h (by omega)⟩, ?_⟩
 rintro m i ⟨J, rfl, hJ, rfl, h0⟩
 refine ⟨fun hi => ?_, fun hi => ?_⟩
 · have hJE : J < Eq.length := by omega
   have hJ1 : J < r.1.length := by omega
   have bad : ¬ cAt Y r.1 K J = 0 → (DV.tup [bD false, iD 0]) = inD (inX r Eq.length lo ho Y K) := fun g => by
    rw [inX, if_neg h, if_pos (eqN_not hJE g)]; rfl
   have go : ¬ ¬ cAt Y r.1 K J = 0 → ∃ k', k' < Eq.length - J ∧ ∃ J' : Nat, IntKind.wrap .i64 ((J : Int) + 1) = J' ∧ J' ≤ Eq.length ∧ k' = Eq.length - J' ∧ ∀ j, j < J' → cAt Y r.1 K j = 0 := fun g =>
    ⟨Eq.length - (J + 1), by omega, J + 1, by rw [i64_in _ (by omega)]; omega, by omega, rfl, fun j hj => by
     by_cases c : j = J
     · subst c; simpa using g
     · exact h0 j (by omega)⟩
   refine ⟨fun y => ⟨by omega, vc_sz _, vc_k Y J (by omega) (by omega), fun k => ⟨by omega, kc_sz _, kc_k1 K J (by omega) (by omega), by omega, vc_sz _, vc_k r.1 J (by omega) (by omega), _, c_at11 Y r.1 K J hY h1 hJ1 (by omega) (by omega), bad, go⟩, fun k => ⟨by omega, vc_sz _, vc_k r.1 J (by omega) (by omega), _, c_at10 Y r.1 K J hY h1 hJ1 (by omega) (by omega), bad, go⟩⟩,
    fun y => ⟨fun k => ⟨by omega, kc_sz _, kc_k1 K J (by omega) (by omega), by omega, vc_sz _, vc_k r.1 J (by omega) (by omega), _, c_at01 Y r.1 K J hY h1 hJ1 (by omega) (by omega), bad, go⟩, fun k => ⟨by omega, vc_sz _, vc_k r.1 J (by omega) (by omega), _, c_at00 Y r.1 K J hY h1 hJ1 (by omega) (by omega), bad, go⟩⟩⟩
 · have hE2 : J = Eq.length := by omega
   subst hE2
   have he := eqN_yes h0
   have base : inX r Eq.length lo ho Y K = if r.1.length = Eq.length ∧ r.2.1.length = Eq.length then (true, 0) else if (Y.getD Eq.length nul).1 = 0 then (false, 0) else if Eq.length < r.1.length ∧ (cAt Y r.1 K Eq.length < 0 ∨ (cAt Y r.1 K Eq.length = 0 ∧ lo = true)) then (false, 0) else if Eq.length < r.2.1.length ∧ (0 < cAt Y r.2.1 K Eq.length ∨ (cAt Y r.2.1 K Eq.length = 0 ∧ ho = true)) then (false, 0) else (true, 0) := by
    rw [inX, if_neg h, if_neg (by rw [he]; simp)]
   rw [base, i64_in _ (by omega)]
   have tL : (Lo.take 1).length = min 1 Lo.length := List.length_take
   have tH : (Hi.take 1).length = min 1 Hi.length := List.length_take
   refine ⟨fun g => by rw [if_pos ⟨by omega, by omega⟩]; rfl, fun g => ?_⟩
   rw [if_neg (fun e => g (by omega))]
   have nY : Eq.length < Y.length → (cellAt (vc Y) (Eq.length : Nat) 0).int = (Y.getD Eq.length nul).1 := fun c => by
    rw [vc_0 Y _ (by omega) (by omega), Int.toNat_natCast]
   refine ⟨fun y => ⟨by omega, vc_sz _, vc_k Y Eq.length (by omega) (by omega), fun k => ⟨by omega, kc_sz _, kc_k1 K Eq.length (by omega) (by omega), ?_⟩, fun k => ?_⟩, fun y => ?_⟩
   · have nY2 := nY (by omega)
     refine ⟨fun g2 => by rw [if_pos (nY2.symm.trans g2)]; rfl, fun g2 => ?_⟩
     rw [if_neg (fun e => g2 (nY2.trans e))]
     refine ⟨fun d1 => ⟨by omega, vc_sz _, vc_k r.1 Eq.length (by omega) (by omega), _, c_at11 Y r.1 K Eq.length hY h1 (by omega) (by omega) (by omega), fun g3 => by rw [if_pos ⟨by omega, g3⟩]; rfl, fun g3 => ?_⟩, fun d1 => ?_⟩
     · rw [if_neg (fun e => g3 e.2)]
       exact ⟨fun d2 => ⟨by omega, vc_sz _, vc_k r.2.1 Eq.length (by omega) (by omega), _, c_at11 Y r.2.1 K Eq.length hY h2 (by omega) (by omega) (by omega), fun g4 => by rw [if_pos ⟨by omega, g4⟩]; rfl, fun g4 => by rw [if_neg (fun e => g4 e.2)]; rfl⟩, fun d2 => by rw [if_neg (fun e => d2 (by omega))]; rfl⟩
     · rw [if_neg (fun e => d1 (by omega))]
       exact ⟨fun d2 => ⟨by omega, vc_sz _, vc_k r.2.1 Eq.length (by omega) (by omega), _, c_at11 Y r.2.1 K Eq.length hY h2 (by omega) (by omega) (by omega), fun g4 => by rw [if_pos ⟨by omega, g4⟩]; rfl, fun g4 => by rw [if_neg (fun e => g4 e.2)]; rfl⟩, fun d2 => by rw [if_neg (fun e => d2 (by omega))]; rfl⟩
   · have nY2 := nY (by omega)
     refine ⟨fun g2 => by rw [if_pos (nY2.symm.trans g2)]; rfl, fun g2 => ?_⟩
     rw [if_neg (fun e => g2 (nY2.trans e))]
     refine ⟨fun d1 => ⟨by omega, vc_sz _, vc_k r.1 Eq.length (by omega) (by omega), _, c_at10 Y r.1 K Eq.length hY h1 (by omega) (by omega) (by omega), fun g3 => by rw [if_pos ⟨by omega, g3⟩]; rfl, fun g3 => ?_⟩, fun d1 => ?_⟩
     · rw [if_neg (fun e => g3 e.2)]
       exact ⟨fun d2 => ⟨by omega, vc_sz _, vc_k r.2.1 Eq.length (by omega) (by omega), _, c_at10 Y r.2.1 K Eq.length hY h2 (by omega) (by omega) (by omega), fun g4 => by rw [if_pos ⟨by omega, g4⟩]; rfl, fun g4 => by rw [if_neg (fun e => g4 e.2)]; rfl⟩, fun d2 => by rw [if_neg (fun e => d2 (by omega))]; rfl⟩
     · rw [if_neg (fun e => d1 (by omega))]
       exact ⟨fun d2 => ⟨by omega, vc_sz _, vc_k r.2.1 Eq.length (by omega) (by omega), _, c_at10 Y r.2.1 K Eq.length hY h2 (by omega) (by omega) (by omega), fun g4 => by rw [if_pos ⟨by omega, g4⟩]; rfl, fun g4 => by rw [if_neg (fun e => g4 e.2)]; rfl⟩, fun d2 => by rw [if_neg (fun e => d2 (by omega))]; rfl⟩
   · have e0 : (Y.getD Eq.length nul).1 = 0 := by rw [nul_at Y _ (by omega)]
     rw [if_pos e0]
     exact ⟨fun k => ⟨by omega, kc_sz _, kc_k1 K Eq.length (by omega) (by omega), rfl⟩, fun k => rfl⟩
end Go.Proofs.YtodjimecekaaeaaGreatDoor
namespace Go.Proofs.YtodjimecekaaeaaGreatDoor
open Go.RowKit Go.IntWalk
set_option linter.unusedSimpArgs false
set_option linter.unusedVariables false
theorem c_spall (Eq Lo Hi : List Xp) (lo ho : Bool) (h : Eq.length + Lo.length + Hi.length ≤ 1048576) : FnC Tryz.prog 12 [.agg [.vs (xcs Eq), .vs (xcs Lo), .vs (xcs Hi), .v (.bool lo), .v (.bool ho)]] (.c (.vs (xcs (Eq ++ Lo ++ Hi)))) := by
 refine w12 (xcs Eq) (xcs Lo) (xcs Hi) lo ho ?_
 intro x5 e5
 subst e5
 simp only [List.length_nil, List.nil_append, xcs_len]
 refine ⟨xcs_sz _, by omega, fun x6 e6 => ?_⟩
 subst e6
 rw [xcs_len]
 refine ⟨xcs_sz _, by omega, fun x7 e7 => ?_⟩
 rw [← xcs_app] at e7
 subst e7
 rw [xcs_len, List.length_append]
 refine ⟨xcs_sz _, by omega, fun x8 e8 => ?_⟩
 rw [← xcs_app] at e8
 rw [e8]
def fairL (l : List Xp) (row : List V3) : Bool := l.all fun e => fairB e && (rowsB row && decide (Xn e ≤ 100))
theorem c_fairL (l : List Xp) (row : List V3) (xi : Xis l) (xn : Xns l ≤ 1048576) (hr : row.length ≤ maxLen) : FnC Tryz.prog 13 [.c (.vs (xcs l)), .c (.vs (vc row))] (bD (fairL l row)) := by
 have hl := Xns_lenS l
 refine w13 (xcs l) (vc row) ?_
 rw [xcs_len]
 refine ⟨fun i m => ∃ J : Nat, i = J ∧ J ≤ l.length ∧ m = l.length - J ∧ ∀ j (h : j < l.length), j < J → (fairB l[j] && (rowsB row && decide (Xn l[j] ≤ 100))) = true, ⟨_, 0, rfl, by omega, rfl, fun j _ h => absurd h (by omega)⟩, ?_⟩
 rintro m i ⟨J, rfl, hJ, rfl, h0⟩
 refine ⟨fun hi => ?_, fun hi => ?_⟩
 · have hj : J < l.length := by omega
   rw [xs_D l _ (by omega) hi]
   have hn := Xns_at l J hj
   refine ⟨by omega, xcs_sz _, xs_k l J (by omega) hi, _, c_Fair l[J] row (xi.at J hj) (by omega) hr, fun g => ?_, fun g => ⟨l.length - (J + 1), by omega, J + 1, by rw [i64_in _ (by omega)]; omega, by omega, rfl, fun j h1 h2 => ?_⟩⟩
   · have : fairL l row = false := by
      unfold fairL
      rw [← Bool.not_eq_true, List.all_eq_true]
      exact fun e => g (e _ (List.getElem_mem hj))
     rw [this]
   · by_cases c : j = J
     · subst c; exact Classical.not_not.1 g
     · exact h0 j h1 (by omega)
 · have e : J = l.length := by omega
   have : fairL l row = true := by
    unfold fairL
    rw [List.all_eq_true]
    intro x hx
    obtain ⟨j, h1, h2⟩ := List.getElem_of_mem hx
    rw [← h2]
    exact h0 j h1 (by omega)
   rw [this]
theorem c_sameRow (L : List V3) (hl : L.length ≤ 1073741824) : FnC Tryz.prog 18 [.c (.vs (vc L)), .c (.vs (vc L))] (bD true) := by
 refine w18 (vc L) (vc L) ?_
 rw [vc_len]
 refine ⟨fun g => absurd rfl g, fun _ => ?_⟩
 refine ⟨fun i m => ∃ J : Nat, i = J ∧ J ≤ L.length ∧ m = L.length - J, ⟨_, 0, rfl, by omega, rfl⟩, ?_⟩
 rintro m i ⟨J, rfl, hJ, rfl⟩
 refine ⟨fun hi => ⟨by omega, vc_sz _, vc_k L J (by omega) hi, by omega, vc_sz _, vc_k L J (by omega) hi, fun g => absurd ⟨rfl, rfl, rfl, rfl⟩ g, fun _ => ⟨L.length - (J + 1), by omega, J + 1, by rw [i64_in _ (by omega)]; omega, by omega, rfl⟩⟩, fun hi => rfl⟩
theorem evXs_app (row : List V3) : ∀ a b : List Xp, evXs row (a ++ b) = evXs row a ++ evXs row b
 | [], b => by simp [evXs]
 | e :: a, b => by simp [evXs, evXs_app row a b]
theorem evXs_mem (row : List V3) : ∀ (l : List Xp) (x : V3 × Int), x ∈ evXs row l → ∃ e ∈ l, x = evX row e
 | [], x, h => by simp [evXs] at h
 | e :: l, x, h => by
  simp only [evXs, List.mem_cons] at h
  rcases h with rfl | h
  · exact ⟨e, by simp, rfl⟩
  · obtain ⟨e', h1, h2⟩ := evXs_mem row l x h
    exact ⟨e', by simp [h1], h2⟩
theorem fairL_all {l : List Xp} {row : List V3} (h : fairL l row = true) (xi : Xis l) (q : ∀ v ∈ row, ValOk v) : ∀ e ∈ l, Fair e ∧ ∀ a ∈ row, Gd a := fun e he => by
 unfold fairL at h
 have := List.all_eq_true.1 h e he
 simp only [Bool.and_eq_true, decide_eq_true_eq] at this
 exact ⟨fair_of e ((Xis_iff l).1 xi e he) this.1 this.2.2, rows_gd this.2.1 q⟩
theorem ends_both (Eq Lo Hi : List Xp) (lo ho : Bool) (row : List V3) (hE : Eq.length ≤ 1000000000) (hl : row.length ≤ 1000000000)
 (G : ∀ e ∈ Eq ++ Lo ++ Hi, Fair e ∧ ∀ a ∈ row, Gd a) :
 ∃ r : BR, FnC Tryz.prog 14 [.agg [.vs (xcs Eq), .vs (xcs Lo), .vs (xcs Hi), .v (.bool lo), .v (.bool ho)], .c (.vs (vc row))] (boundsD r) ∧
  FnC Tryz.prog 15 [.agg [.vs (xcs Eq), .vs (xcs Lo), .vs (xcs Hi), .v (.bool lo), .v (.bool ho)], .c (.vs (vc row))] (boundsD r) ∧
  r = boundsX (evXs row Eq) (evXs row (Lo.take 1)) (evXs row (Hi.take 1)) ∧ Szs r.1 ∧ Szs r.2.1 := by
 have g1 : ∀ e ∈ Lo.take 1, Fair e ∧ ∀ a ∈ row, Gd a := fun e he => G e (by simp [List.mem_of_mem_take he])
 have g2 : ∀ e ∈ Hi.take 1, Fair e ∧ ∀ a ∈ row, Gd a := fun e he => G e (by simp [List.mem_of_mem_take he])
 have g0 : ∀ e ∈ Eq, Fair e ∧ ∀ a ∈ row, Gd a := fun e he => G e (by simp [he])
 have gA : ∀ e ∈ Eq ++ (Lo.take 1 ++ Hi.take 1), Fair e ∧ ∀ a ∈ row, Gd a := fun e he => by
  simp only [List.mem_append] at he
  rcases he with he | he | he
  · exact g0 e he
  · exact g1 e he
  · exact g2 e he
 have ev : ∀ l : List Xp, (∀ e ∈ l, Fair e ∧ ∀ a ∈ row, Gd a) → ∀ i (h : i < l.length), EvR row l[i] ((evXs row l).getD i (nul, 0)) := fun l gl i h => by
  have := gl _ (List.getElem_mem h)
  rw [evXs_get row l i h]
  exact c_EvX row this.2 _ this.1
 have rv : ∀ l : List Xp, (∀ e ∈ l, Fair e ∧ ∀ a ∈ row, Gd a) → ∀ i (h : i < l.length), RvR row l[i] ((evXs row l).getD i (nul, 0)) := fun l gl i h => by
  have := gl _ (List.getElem_mem h)
  rw [evXs_get row l i h]
  exact c_RvX row this.2 _ this.1
 have eA : evXs row Eq ++ (evXs row (Lo.take 1) ++ evXs row (Hi.take 1)) = evXs row (Eq ++ (Lo.take 1 ++ Hi.take 1)) := by rw [evXs_app, evXs_app]
 refine ⟨_, c_Bounds Eq Lo Hi lo ho row (by omega) _ _ _ (evXs_len row Eq) (evXs_len row _) (evXs_len row _) (ev _ g0) (ev _ g1) (ev _ g2), c_rBounds Eq Lo Hi lo ho row hE _ _ _ (evXs_len row Eq) (evXs_len row _) (evXs_len row _) (by rw [eA]; exact rv _ gA), rfl, ?_⟩
 refine boundsX_szs _ _ _ fun x hx => ?_
 rw [eA] at hx
 obtain ⟨e, he, rfl⟩ := evXs_mem row _ x hx
 exact (gd_ev row (gA e he).2 e (gA e he).1).sz
theorem vals_szs {L : List V3} (q : ∀ v ∈ L, ValOk v) : Szs L := fun v hv => by
 have := (q v hv).2.2
 unfold maxLen at this
 exact this
theorem walkIn (c : Cs) (ok : c.Ok) (xn : Xns c.Eq + Xns c.Lo + Xns c.Hi ≤ 1048576) : FnC Tryz.prog 4 [.agg c.cells] (bD true) := by
 obtain ⟨Eq, Lo, Hi, lo, ho, R, Y, K⟩ := c
 obtain ⟨xE, xL, xH, qR, qY, qK, lR, lY, lK⟩ := ok
 simp only at xn xE xL xH qR qY qK lR lY lK
 have n1 := Xns_lenS Eq
 have n2 := Xns_lenS Lo
 have n3 := Xns_lenS Hi
 have xA : Xis (Eq ++ Lo ++ Hi) := by
  rw [Xis_iff] at *
  intro e he
  simp only [List.mem_append] at he
  rcases he with (he | he) | he
  · exact xE e he
  · exact xL e he
  · exact xH e he
 have nA : Xns (Eq ++ Lo ++ Hi) ≤ 1048576 := by rw [Xns_app, Xns_app]; exact xn
 have lA : (Eq ++ Lo ++ Hi).length ≤ maxLen := by unfold maxLen; simp only [List.length_append]; omega
 have cA := c_spall Eq Lo Hi lo ho (by omega)
 refine w4 (xcs Eq) (xcs Lo) (xcs Hi) lo ho (vc R) (vc Y) (kc K) ?_
 simp only [vc_len, kc_len]
 refine ⟨true, c_awake, _, fun _ => cA, greatL 12 (Eq ++ Lo ++ Hi), fun _ => c_great 12 (by omega) _ xA lA, _, fun _ => cA, _, fun _ => c_fairL _ R xA nA lR, _, fun _ => cA, _, fun _ => c_fairL _ Y xA nA lY, fun _ => ⟨true, c_awake, rfl⟩, fun h => ?_⟩
 simp only [not_or, Classical.not_not] at h
 obtain ⟨⟨⟨⟨⟨⟨_, hg⟩, hK⟩, hY⟩, hR⟩, fR⟩, fY⟩ := h
 obtain ⟨r, b1, b2, hr, s1, s2⟩ := ends_both Eq Lo Hi lo ho R (by omega) (by omega) (fairL_all fR xA qR)
 have hl : ¬ (r.2.2.2 ≠ 0 ∨ r.2.2.1 = true) → r.1.length = Eq.length + (Lo.take 1).length ∧ r.2.1.length = Eq.length + (Hi.take 1).length := fun g => by
  rw [hr] at g ⊢
  have := boundsX_len _ _ _ g
  simpa only [evXs_len] using this
 have lr : r.1.length ≤ 1073741824 ∧ r.2.1.length ≤ 1073741824 := by
  have k1 : (Lo.take 1).length ≤ 1 := by rw [List.length_take]; omega
  have k2 : (Hi.take 1).length ≤ 1 := by rw [List.length_take]; omega
  by_cases g : r.2.2.2 ≠ 0 ∨ r.2.2.1 = true
  · rw [hr] at g ⊢
    unfold boundsX at g ⊢
    revert g
    repeat' split
    · intro _; simp
    · intro _; simp
    · intro g; simp at g
  · have := hl g
    omega
 refine ⟨_, _, _, _, b1, _, _, _, _, b2, _, _, c_spIn Eq Lo Hi lo ho R Y K r (by omega) (by omega) (by omega) b1 hl (vals_szs qY) s1 s2, _, _, c_rIn Eq Lo Hi lo ho R Y K r (by omega) b2 (fun g => by have := hl g; omega) (vals_szs qY) s1 s2, true, c_sameRow _ lr.1, true, fun _ => c_sameRow _ lr.2, ?_⟩
 simp
end Go.Proofs.YtodjimecekaaeaaGreatDoor
namespace Go.Proofs.YtodjimecekaaeaaGreatDoor
open Go.RowKit Go.IntWalk
set_option linter.unusedSimpArgs false
set_option linter.unusedVariables false
theorem cv_swap (a b : V3) : cmpV b a 0 = -cmpV a b 0 := (fineO_cmpV 0).swap a b
theorem cv_kind {a b : V3} (h : cmpV a b 0 = 0) : a.1 = b.1 := by
 unfold cmpV at h
 by_cases e : a.1 = b.1
 · exact e
 · rw [if_pos e] at h
   unfold cmpI at h
   split at h
   · omega
   · split at h
     · omega
     · omega
def tT (x : V3 × Int) : Bool := (tru x.1).1
def HT (c : V3) (op : List UInt8) (b : V3) : Bool := relB op (cmpV c b 0) && (!(c.1 == 0) && !(b.1 == 0))
theorem tru_tv3 (i k : Bool) : (tru (truV i k)).1 = (i && k) ∧ (tru (truV i k)).2.1 = k ∧ (tru (truV i k)).2.2 = 0 := by
 cases i <;> cases k <;> decide
theorem tT_held (op : List UInt8) (a b : V3) : (tru (heldV op a b)).1 = HT a op b := by
 unfold heldV HT
 rw [(tru_tv3 _ _).1]
 cases relB op (cmpV a b 0) <;> cases (a.1 == 0) <;> cases (b.1 == 0) <;> rfl
theorem relB_turn (op : List UInt8) (h : opB op = true) (c : Int) : relB op (-c) = relB (turnO op) c := by
 have h : op = [61] ∨ op = [60] ∨ op = [60, 61] ∨ op = [62] ∨ op = [62, 61] := by simpa [opB] using h
 rcases h with rfl | rfl | rfl | rfl | rfl
 · show ((-c : Int) == 0) = (c == 0)
   rw [Bool.eq_iff_iff]; simp only [beq_iff_eq]; omega
 · show decide (-c < 0) = decide (0 < c)
   exact decide_eq_decide.2 (by omega)
 · show decide (-c ≤ 0) = decide (0 ≤ c)
   exact decide_eq_decide.2 (by omega)
 · show decide (0 < -c) = decide (c < 0)
   exact decide_eq_decide.2 (by omega)
 · show decide (0 ≤ -c) = decide (c ≤ 0)
   exact decide_eq_decide.2 (by omega)
theorem HT_turn (op : List UInt8) (h : opB op = true) (a b : V3) : HT a op b = HT b (turnO op) a := by
 unfold HT
 rw [cv_swap b a, relB_turn op h]
 cases relB (turnO op) (cmpV b a 0) <;> cases (a.1 == 0) <;> cases (b.1 == 0) <;> rfl
theorem node_ok {k : Int} {ds : Bool} {n : Nat} {X : List (V3 × Int)} {R : V3 × Int} (h : (nodeV k ds n X R).2 = 0) : mayV k ds n = 0 ∧ errV X = 0 ∧ nodeV k ds n X R = finP R ∧ R.2 = 0 := by
 unfold nodeV at h ⊢
 split at h
 · rename_i g; exact absurd h g
 · rename_i g
   split at h
   · rename_i g2; exact absurd h g2
   · rename_i g2
     rw [if_neg g, if_neg g2]
     refine ⟨by omega, by omega, rfl, ?_⟩
     unfold finP at h
     split at h
     · exact h
     · rename_i g3; exact Classical.not_not.1 g3
theorem finP_ok {R : V3 × Int} (h : R.2 = 0) : finP R = R := by
 unfold finP
 rw [if_neg (by omega)]
 exact Prod.ext rfl h.symm
theorem errV_all : ∀ (X : List (V3 × Int)), errV X = 0 → ∀ x ∈ X, x.2 = 0
 | [], _, x, h => by simp at h
 | y :: X, h, x, hx => by
  unfold errV at h
  split at h
  · rename_i g
    rcases List.mem_cons.1 hx with rfl | hx
    · exact g
    · exact errV_all X h x hx
  · rename_i g; exact absurd h g
theorem ev_ok {row : List V3} {k : Int} {op : List UInt8} {v : V3} {tb nm : List UInt8} {sl : Int} {nt ds : Bool} {args : List Xp} (hk : k ≠ 9) (h : (evX row (.mk k op v tb nm sl nt ds args)).2 = 0) :
 okN k ds args.length ∧ (∀ a ∈ args, (evX row a).2 = 0) ∧ evX row (.mk k op v tb nm sl nt ds args) = reckV k op v sl nt ((evXs row args).map (·.1)) row ∧ (reckV k op v sl nt ((evXs row args).map (·.1)) row).2 = 0 := by
 have e0 : evX row (.mk k op v tb nm sl nt ds args) = nodeV k ds (evXs row args).length (evXs row args) (reckV k op v sl nt ((evXs row args).map (·.1)) row) := by
  rw [evX, topV, if_neg hk]
 rw [e0] at h
 obtain ⟨h1, h2, h3, h4⟩ := node_ok h
 rw [evXs_len] at h1
 have h5 : okN k ds args.length := by
  unfold mayV at h1
  split at h1
  · simp at h1
  · split at h1
    · assumption
    · simp at h1
 refine ⟨h5, fun a ha => ?_, by rw [e0, h3, finP_ok h4], h4⟩
 have hall := errV_all _ h2
 obtain ⟨i, hi, rfl⟩ := List.getElem_of_mem ha
 have := hall ((evXs row args).getD i (nul, 0)) (by
  rw [List.getD_eq_getElem?_getD, List.getElem?_eq_getElem (by rw [evXs_len]; exact hi)]
  exact List.getElem_mem _)
 rw [evXs_get row args i hi] at this
 exact this
theorem ev_col {row : List V3} {e : Xp} {s : Int} (hc : colX e s = true) (h : (evX row e).2 = 0) : 0 ≤ s ∧ s < row.length ∧ evX row e = (row.getD s.toNat nul, 0) := by
 cases e with
 | mk k op v tb nm sl nt ds args =>
  have hc : (if k == 2 then sl == s else false) = true := hc
  by_cases hk : k = 2
  · subst hk
    have hs : sl = s := by simpa using hc
    subst hs
    obtain ⟨_, _, h3, h4⟩ := ev_ok (by decide) h
    rw [h3]
    unfold reckV at h4 ⊢
    simp only [show ¬ (2 : Int) = 1 by decide, if_false, if_true] at h4 ⊢
    split at h4
    · simp at h4
    · rename_i g
      rw [if_neg g]
      exact ⟨by omega, by omega, rfl⟩
  · have : (k == 2) = false := by simpa using hk
    rw [this] at hc
    simp at hc
theorem ev_plain {R Y : List V3} {e : Xp} (hp : plainX e R.length = true) (h : (evX (R ++ Y) e).2 = 0) : evX R e = evX (R ++ Y) e := by
 cases e with
 | mk k op v tb nm sl nt ds args =>
  have hp : (if k == 1 then true else (if (if k == 2 then decide (0 ≤ sl) else false) then decide (sl < R.length) else false)) = true := hp
  have hk : k = 1 ∨ (k = 2 ∧ 0 ≤ sl ∧ sl < R.length) := by
   by_cases h1 : k = 1
   · exact .inl h1
   · have e1 : (k == 1) = false := by simpa using h1
     rw [e1] at hp
     by_cases h2 : k = 2
     · have e2 : (k == 2) = true := by simpa using h2
       rw [e2] at hp
       by_cases h3 : 0 ≤ sl
       · rw [decide_eq_true h3] at hp
         exact .inr ⟨h2, h3, by simpa using hp⟩
       · rw [decide_eq_false h3] at hp
         simp at hp
     · have e2 : (k == 2) = false := by simpa using h2
       rw [e2] at hp
       simp at hp
  have hk9 : k ≠ 9 := by rcases hk with h | h <;> omega
  obtain ⟨h1, _, h3, h4⟩ := ev_ok hk9 h
  have ha : args = [] := by
   unfold okN at h1
   have : args.length = 0 := by omega
   exact List.length_eq_zero_iff.1 this
  subst ha
  rw [h3]
  have h1 : okN k ds 0 := h1
  have hm : mayV k ds 0 = 0 := by
   unfold mayV
   rw [if_neg (by omega), if_pos h1]
  rw [evX, topV, if_neg hk9]
  simp only [evXs, List.length_nil, nodeV, hm, errV, ne_eq, not_true_eq_false, if_false, List.map_nil]
  rcases hk with rfl | ⟨rfl, h5, h6⟩
  · rfl
  · unfold reckV
    simp only [show ¬ (2 : Int) = 1 by decide, if_false, if_true]
    rw [if_neg (by omega), if_neg (by rw [List.length_append]; omega)]
    unfold finP
    rw [if_neg (by simp)]
    simp only []
    rw [List.getD_eq_getElem?_getD, List.getD_eq_getElem?_getD, List.getElem?_append_left (by omega)]
def PartOk (R Y : List V3) (b : Xp) : Prop := (evX (R ++ Y) b).2 = 0 ∧ evX R b = evX (R ++ Y) b
theorem reckV4 (op : List UInt8) (v : V3) (sl : Int) (nt : Bool) (L row : List V3) : reckV 4 op v sl nt L row = binV op (L.getD 0 nul) (L.getD 1 nul) := by
 rw [reckV, if_neg (by decide), if_neg (by decide), if_neg (by decide), if_pos rfl]
theorem reckV5 (op : List UInt8) (v : V3) (sl : Int) (nt : Bool) (L row : List V3) : reckV 5 op v sl nt L row = (truV (!((cmpV (L.getD 0 nul) (L.getD 1 nul) 0 == 0) == nt)) true, 0) := by
 rw [reckV, if_neg (by decide), if_neg (by decide), if_neg (by decide), if_neg (by decide), if_pos rfl]
theorem reckV7 (op : List UInt8) (v : V3) (sl : Int) (nt : Bool) (L row : List V3) : reckV 7 op v sl nt L row = (turnV (bothV (heldV [62, 61] (L.getD 0 nul) (L.getD 1 nul)) (heldV [60, 61] (L.getD 0 nul) (L.getD 2 nul)) false).1 nt, 0) := by
 rw [reckV, if_neg (by decide), if_neg (by decide), if_neg (by decide), if_neg (by decide), if_neg (by decide), if_neg (by decide), if_pos rfl]
theorem h4_eq (op : List UInt8) (s fr : Int) (a b : Xp) : h4 op s fr [a, b] = if (colX a s && plainX b fr) = true then (op, [b]) else if (colX b s && plainX a fr) = true then (turnO op, [a]) else ([], []) := rfl
theorem h5_eq (w : List UInt8) (s : Int) (a b : Xp) : h5 w s [a, b] = if (colX a s && (decide (xk b = 1) && decide ((xv b).1 ≠ 0))) = true then (w, [b]) else if (colX b s && (decide (xk a = 1) && decide ((xv a).1 ≠ 0))) = true then (w, [a]) else ([], []) := rfl
theorem h7_eq (s fr : Int) (a b c : Xp) : h7 s fr [a, b, c] = if (colX a s && (plainX b fr && plainX c fr)) = true then (wBetween, [b, c]) else ([], []) := rfl
theorem hX_true (R Y : List V3) (e : Xp) (s : Int) (h : (evX (R ++ Y) e).2 = 0) :
 ((hX [61] e s R.length).1 = [] ∧ (hX [61] e s R.length).2 = []) ∨
 (∃ b, (hX [61] e s R.length).2 = [b] ∧ opB (hX [61] e s R.length).1 = true ∧ PartOk R Y b ∧ tT (evX (R ++ Y) e) = HT ((R ++ Y).getD s.toNat nul) (hX [61] e s R.length).1 (evX R b).1) ∨
 (∃ a b, (hX [61] e s R.length).2 = [a, b] ∧ (hX [61] e s R.length).1 = wBetween ∧ PartOk R Y a ∧ PartOk R Y b ∧ tT (evX (R ++ Y) e) = (HT ((R ++ Y).getD s.toNat nul) [62, 61] (evX R a).1 && HT ((R ++ Y).getD s.toNat nul) [60, 61] (evX R b).1)) := by
 cases e with
 | mk k op v tb nm sl nt ds args =>
  rw [hX_mk]
  by_cases h4c : k = 4 ∧ opB op = true
  · rw [if_pos h4c]
    obtain ⟨rfl, hop⟩ := h4c
    obtain ⟨hn, ha, he, _⟩ := ev_ok (by decide) h
    have hn : args.length = 2 := by unfold okN at hn; omega
    match args, hn with
    | [a, b], _ =>
     have na : ¬ op = [124, 124] ∧ ¬ arOp op ∧ cmOp op := by
      have hop : op = [61] ∨ op = [60] ∨ op = [60, 61] ∨ op = [62] ∨ op = [62, 61] := by simpa [opB] using hop
      rcases hop with rfl | rfl | rfl | rfl | rfl <;> decide
     have ev : evX (R ++ Y) (.mk 4 op v tb nm sl nt ds [a, b]) = (heldV op (evX (R ++ Y) a).1 (evX (R ++ Y) b).1, 0) := by
      rw [he, reckV4]
      show binV op (evX (R ++ Y) a).1 (evX (R ++ Y) b).1 = _
      unfold binV
      rw [if_neg na.1, if_neg na.2.1, if_pos na.2.2]
     have ea := ha a (by simp)
     have eb := ha b (by simp)
     have tt : tT (evX (R ++ Y) (.mk 4 op v tb nm sl nt ds [a, b])) = HT (evX (R ++ Y) a).1 op (evX (R ++ Y) b).1 := by
      rw [ev]
      exact tT_held _ _ _
     rw [h4_eq]
     split
     · rename_i g
       rw [Bool.and_eq_true] at g
       obtain ⟨_, _, c3⟩ := ev_col g.1 ea
       have pb := ev_plain g.2 eb
       refine .inr (.inl ⟨b, rfl, hop, ⟨eb, pb⟩, ?_⟩)
       rw [tt, c3, pb]
     · split
       · rename_i _ g
         rw [Bool.and_eq_true] at g
         obtain ⟨_, _, c3⟩ := ev_col g.1 eb
         have pa := ev_plain g.2 ea
         refine .inr (.inl ⟨a, rfl, turn_opB hop, ⟨ea, pa⟩, ?_⟩)
         rw [tt, c3, pa]
         exact HT_turn op hop _ _
       · exact .inl ⟨rfl, rfl⟩
  rw [if_neg h4c]
  have cst : ∀ b : Xp, xk b = 1 → (evX (R ++ Y) b).2 = 0 → evX (R ++ Y) b = (xv b, 0) ∧ plainX b R.length = true := fun b hb h => by
   cases b with
   | mk k op v tb nm sl nt ds args =>
    have hb : k = 1 := hb
    subst hb
    exact ⟨(ev_ok (by decide) h).2.2.1, rfl⟩
  by_cases h5c : k = 5 ∧ nt = false
  · rw [if_pos h5c]
    obtain ⟨rfl, rfl⟩ := h5c
    obtain ⟨hn, ha, he, _⟩ := ev_ok (by decide) h
    have hn : args.length = 2 := by unfold okN at hn; omega
    match args, hn with
    | [a, b], _ =>
     have ev : evX (R ++ Y) (.mk 5 op v tb nm sl false ds [a, b]) = (truV (cmpV (evX (R ++ Y) a).1 (evX (R ++ Y) b).1 0 == 0) true, 0) := by
      rw [he, reckV5]
      show (truV (!((cmpV (evX (R ++ Y) a).1 (evX (R ++ Y) b).1 0 == 0) == false)) true, (0 : Int)) = _
      cases (cmpV (evX (R ++ Y) a).1 (evX (R ++ Y) b).1 0 == 0) <;> rfl
     have ea := ha a (by simp)
     have eb := ha b (by simp)
     have tt : tT (evX (R ++ Y) (.mk 5 op v tb nm sl false ds [a, b])) = (cmpV (evX (R ++ Y) a).1 (evX (R ++ Y) b).1 0 == 0) := by
      rw [ev]
      show (tru (truV _ true)).1 = _
      rw [(tru_tv3 _ _).1, Bool.and_true]
     have nn : ∀ c w : V3, w.1 ≠ 0 → (cmpV c w 0 == 0) = HT c [61] w := fun c w hw => by
      unfold HT
      show _ = ((cmpV c w 0 == 0) && _)
      have hw2 : (w.1 == 0) = false := by simpa using hw
      rw [hw2]
      by_cases hc : cmpV c w 0 = 0
      · have hc2 : (c.1 == 0) = false := by
         rw [cv_kind hc]; exact hw2
        rw [hc2, hc]; rfl
      · have hc2 : (cmpV c w 0 == 0) = false := by simpa using hc
        rw [hc2]; rfl
     rw [h5_eq]
     split
     · rename_i g
       simp only [Bool.and_eq_true, decide_eq_true_eq] at g
       obtain ⟨_, _, c3⟩ := ev_col g.1 ea
       obtain ⟨c4, c5⟩ := cst b g.2.1 eb
       have pb := ev_plain c5 eb
       refine .inr (.inl ⟨b, rfl, rfl, ⟨eb, pb⟩, ?_⟩)
       rw [tt, c3, pb]
       exact nn _ _ (by rw [c4]; exact g.2.2)
     · split
       · rename_i _ g
         simp only [Bool.and_eq_true, decide_eq_true_eq] at g
         obtain ⟨_, _, c3⟩ := ev_col g.1 eb
         obtain ⟨c4, c5⟩ := cst a g.2.1 ea
         have pa := ev_plain c5 ea
         refine .inr (.inl ⟨a, rfl, rfl, ⟨ea, pa⟩, ?_⟩)
         rw [tt, c3, pa]
         have := nn ((R ++ Y).getD s.toNat nul) (evX (R ++ Y) a).1 (by rw [c4]; exact g.2.2)
         rw [← this, cv_swap, Bool.eq_iff_iff]
         simp only [beq_iff_eq]
         omega
       · exact .inl ⟨rfl, rfl⟩
  rw [if_neg h5c]
  by_cases h7c : k = 7 ∧ nt = false
  · rw [if_pos h7c]
    obtain ⟨rfl, rfl⟩ := h7c
    obtain ⟨hn, ha, he, _⟩ := ev_ok (by decide) h
    have hn : args.length = 3 := by unfold okN at hn; omega
    match args, hn with
    | [a, b, c], _ =>
     have ev : evX (R ++ Y) (.mk 7 op v tb nm sl false ds [a, b, c]) = (turnV (bothV (heldV [62, 61] (evX (R ++ Y) a).1 (evX (R ++ Y) b).1) (heldV [60, 61] (evX (R ++ Y) a).1 (evX (R ++ Y) c).1) false).1 false, 0) := by
      rw [he, reckV7]
      rfl
     have ea := ha a (by simp)
     have eb := ha b (by simp)
     have ec := ha c (by simp)
     have tt : tT (evX (R ++ Y) (.mk 7 op v tb nm sl false ds [a, b, c])) = (HT (evX (R ++ Y) a).1 [62, 61] (evX (R ++ Y) b).1 && HT (evX (R ++ Y) a).1 [60, 61] (evX (R ++ Y) c).1) := by
      rw [ev, ← tT_held, ← tT_held]
      show (tru (turnV _ false)).1 = _
      have k1 := (tru_tv3 (relB [62, 61] (cmpV (evX (R ++ Y) a).1 (evX (R ++ Y) b).1 0)) (if (!((evX (R ++ Y) a).1.1 == 0)) = true then !((evX (R ++ Y) b).1.1 == 0) else false))
      have k2 := (tru_tv3 (relB [60, 61] (cmpV (evX (R ++ Y) a).1 (evX (R ++ Y) c).1 0)) (if (!((evX (R ++ Y) a).1.1 == 0)) = true then !((evX (R ++ Y) c).1.1 == 0) else false))
      have i1 := tru_imp (heldV [62, 61] (evX (R ++ Y) a).1 (evX (R ++ Y) b).1)
      have i2 := tru_imp (heldV [60, 61] (evX (R ++ Y) a).1 (evX (R ++ Y) c).1)
      have z1 : (tru (heldV [62, 61] (evX (R ++ Y) a).1 (evX (R ++ Y) b).1)).2.2 = 0 := k1.2.2
      have z2 : (tru (heldV [60, 61] (evX (R ++ Y) a).1 (evX (R ++ Y) c).1)).2.2 = 0 := k2.2.2
      unfold bothV
      rw [z1, z2, if_neg (by simp), if_neg (by simp)]
      generalize (tru (heldV [62, 61] (evX (R ++ Y) a).1 (evX (R ++ Y) b).1)).1 = p1 at *
      generalize (tru (heldV [60, 61] (evX (R ++ Y) a).1 (evX (R ++ Y) c).1)).1 = p2 at *
      generalize (tru (heldV [62, 61] (evX (R ++ Y) a).1 (evX (R ++ Y) b).1)).2.1 = q1 at *
      generalize (tru (heldV [60, 61] (evX (R ++ Y) a).1 (evX (R ++ Y) c).1)).2.1 = q2 at *
      clear k1 k2 ev he
      revert i1 i2
      cases p1 <;> cases p2 <;> cases q1 <;> cases q2 <;> decide
     rw [h7_eq]
     split
     · rename_i g
       simp only [Bool.and_eq_true] at g
       obtain ⟨_, _, c3⟩ := ev_col g.1 ea
       have pb := ev_plain g.2.1 eb
       have pc := ev_plain g.2.2 ec
       refine .inr (.inr ⟨b, c, rfl, rfl, ⟨eb, pb⟩, ⟨ec, pc⟩, ?_⟩)
       rw [tt, c3, pb, pc]
     · exact .inl ⟨rfl, rfl⟩
  rw [if_neg h7c]
  exact .inl ⟨rfl, rfl⟩
end Go.Proofs.YtodjimecekaaeaaGreatDoor
namespace Go.Proofs.YtodjimecekaaeaaGreatDoor
open Go.RowKit Go.IntWalk
set_option linter.unusedSimpArgs false
set_option linter.unusedVariables false
noncomputable def lowT (R : List V3) (c : V3) (l : List Xp) (op : Bool) : Bool :=
 match l with
 | [] => true
 | b :: _ => HT c (if op = true then [62] else [62, 61]) (evX R b).1
noncomputable def highT (R : List V3) (c : V3) (l : List Xp) (op : Bool) : Bool :=
 match l with
 | [] => true
 | b :: _ => HT c (if op = true then [60] else [60, 61]) (evX R b).1
noncomputable def allT (row : List V3) (l : List Xp) : Bool := l.all fun e => tT (evX row e)
noncomputable def esT (R Y : List V3) (c : V3) (t : ES) : Bool := lowT R c t.1 t.2.1 && highT R c t.2.2.1 t.2.2.2.1 && allT (R ++ Y) t.2.2.2.2
structure EsOk (R Y : List V3) (t : ES) : Prop where
 l1 : t.1.length ≤ 1
 h1 : t.2.2.1.length ≤ 1
 lp : ∀ b ∈ t.1, PartOk R Y b
 hp : ∀ b ∈ t.2.2.1, PartOk R Y b
 lf : t.1 = [] → t.2.1 = false
 hf : t.2.2.1 = [] → t.2.2.2.1 = false
theorem endS_true (R Y : List V3) (s : Int) (t : ES) (e : Xp) (ok : EsOk R Y t) (h : (evX (R ++ Y) e).2 = 0) :
 EsOk R Y (endS s R.length t e) ∧ esT R Y ((R ++ Y).getD s.toNat nul) (endS s R.length t e) = (esT R Y ((R ++ Y).getD s.toNat nul) t && tT (evX (R ++ Y) e)) := by
 obtain ⟨lo, lf, hi, hf, rest⟩ := t
 have hx := hX_true R Y e s h
 generalize hR : hX [61] e s R.length = Q at hx
 have dflt : EsOk R Y (lo, lf, hi, hf, rest ++ [e]) ∧ esT R Y ((R ++ Y).getD s.toNat nul) (lo, lf, hi, hf, rest ++ [e]) = (esT R Y ((R ++ Y).getD s.toNat nul) (lo, lf, hi, hf, rest) && tT (evX (R ++ Y) e)) := by
  refine ⟨⟨ok.l1, ok.h1, ok.lp, ok.hp, ok.lf, ok.hf⟩, ?_⟩
  simp only [esT, allT, List.all_append, List.all_cons, List.all_nil, Bool.and_true, Bool.and_assoc]
 have isLow : (Q.1 = [62] ∨ Q.1 = [62, 61]) → lo.length = 0 → EsOk R Y (Q.2, Q.1 == [62], hi, hf, rest) ∧ esT R Y ((R ++ Y).getD s.toNat nul) (Q.2, Q.1 == [62], hi, hf, rest) = (esT R Y ((R ++ Y).getD s.toNat nul) (lo, lf, hi, hf, rest) && tT (evX (R ++ Y) e)) := fun g g0 => by
  have e0 : lo = [] := List.length_eq_zero_iff.1 g0
  subst e0
  rcases hx with ⟨k1, _⟩ | ⟨b, k2, _, pb, tt⟩ | ⟨a, b, _, k2, _⟩
  · rw [k1] at g; simp at g
  · refine ⟨⟨by rw [k2]; simp, ok.h1, fun x hx => ?_, ok.hp, fun g2 => (by rw [k2] at g2; cases g2), ok.hf⟩, ?_⟩
    · rw [k2] at hx
      simp only [List.mem_singleton] at hx
      subst hx; exact pb
    · have : lowT R ((R ++ Y).getD s.toNat nul) Q.2 (Q.1 == [62]) = tT (evX (R ++ Y) e) := by
       rw [tt, k2]
       rcases g with g | g <;> rw [g] <;> rfl
      simp only [esT, this]
      show _ = (true && _ && _ && _)
      cases tT (evX (R ++ Y) e) <;> cases highT R ((R ++ Y).getD s.toNat nul) hi hf <;> cases allT (R ++ Y) rest <;> rfl
  · rw [k2] at g; simp [wBetween] at g
 have isHigh : (Q.1 = [60] ∨ Q.1 = [60, 61]) → hi.length = 0 → EsOk R Y (lo, lf, Q.2, Q.1 == [60], rest) ∧ esT R Y ((R ++ Y).getD s.toNat nul) (lo, lf, Q.2, Q.1 == [60], rest) = (esT R Y ((R ++ Y).getD s.toNat nul) (lo, lf, hi, hf, rest) && tT (evX (R ++ Y) e)) := fun g g0 => by
  have e0 : hi = [] := List.length_eq_zero_iff.1 g0
  subst e0
  rcases hx with ⟨k1, _⟩ | ⟨b, k2, _, pb, tt⟩ | ⟨a, b, _, k2, _⟩
  · rw [k1] at g; simp at g
  · refine ⟨⟨ok.l1, by rw [k2]; simp, ok.lp, fun x hx => ?_, ok.lf, fun g2 => (by rw [k2] at g2; cases g2)⟩, ?_⟩
    · rw [k2] at hx
      simp only [List.mem_singleton] at hx
      subst hx; exact pb
    · have : highT R ((R ++ Y).getD s.toNat nul) Q.2 (Q.1 == [60]) = tT (evX (R ++ Y) e) := by
       rw [tt, k2]
       rcases g with g | g <;> rw [g] <;> rfl
      simp only [esT, this]
      show _ = (_ && true && _ && _)
      cases tT (evX (R ++ Y) e) <;> cases lowT R ((R ++ Y).getD s.toNat nul) lo lf <;> cases allT (R ++ Y) rest <;> rfl
  · rw [k2] at g; simp [wBetween] at g
 have isBoth : Q.1 = wBetween → lo.length = 0 → hi.length = 0 → EsOk R Y (Q.2.take 1, lf, Q.2.drop 1, hf, rest) ∧ esT R Y ((R ++ Y).getD s.toNat nul) (Q.2.take 1, lf, Q.2.drop 1, hf, rest) = (esT R Y ((R ++ Y).getD s.toNat nul) (lo, lf, hi, hf, rest) && tT (evX (R ++ Y) e)) := fun g g0 g1 => by
  have e0 : lo = [] := List.length_eq_zero_iff.1 g0
  have e1 : hi = [] := List.length_eq_zero_iff.1 g1
  subst e0 e1
  have f0 : lf = false := ok.lf rfl
  have f1 : hf = false := ok.hf rfl
  subst f0 f1
  rcases hx with ⟨k1, _⟩ | ⟨b, k2, k3, _⟩ | ⟨a, b, k2, _, pa, pb, tt⟩
  · rw [k1] at g; simp [wBetween] at g
  · rw [g] at k3; exact absurd k3 (by decide)
  · rw [k2]
    refine ⟨⟨by simp, by simp, fun x hx => ?_, fun x hx => ?_, fun g2 => rfl, fun g2 => rfl⟩, ?_⟩
    · simp only [List.take_succ_cons, List.take_zero, List.mem_singleton] at hx
      subst hx; exact pa
    · simp only [List.drop_succ_cons, List.drop_zero, List.mem_singleton] at hx
      subst hx; exact pb
    · show (HT _ [62, 61] _ && HT _ [60, 61] _ && allT (R ++ Y) rest) = (true && true && allT (R ++ Y) rest && tT (evX (R ++ Y) e))
      rw [tt]
      simp only [Bool.true_and]
      exact Bool.and_comm _ _
 unfold endS
 rw [hR]
 simp only
 split
 · rename_i g; exact isLow g.1 g.2
 · split
   · rename_i _ g; exact isHigh g.1 g.2
   · split
     · rename_i _ _ g; exact isBoth g.1.1 g.1.2 g.2
     · exact dflt
theorem endsX_true (R Y : List V3) (s : Int) : ∀ (l : List Xp) (t : ES), EsOk R Y t → (∀ e ∈ l, (evX (R ++ Y) e).2 = 0) →
 EsOk R Y (endsX s R.length t l) ∧ esT R Y ((R ++ Y).getD s.toNat nul) (endsX s R.length t l) = (esT R Y ((R ++ Y).getD s.toNat nul) t && allT (R ++ Y) l)
 | [], t, ok, _ => ⟨ok, by simp [endsX, allT]⟩
 | e :: l, t, ok, h => by
  obtain ⟨o1, q1⟩ := endS_true R Y s t e ok (h e (by simp))
  obtain ⟨o2, q2⟩ := endsX_true R Y s l _ o1 (fun a ha => h a (by simp [ha]))
  have e0 : endsX s R.length t (e :: l) = endsX s R.length (endS s R.length t e) l := rfl
  rw [e0]
  refine ⟨o2, ?_⟩
  rw [q2, q1, Bool.and_assoc]
  rfl
def colV (R Y : List V3) (k : K3) : V3 := (R ++ Y).getD (IntKind.wrap .i64 ((R.length : Int) + k.1)).toNat nul
noncomputable def eqT (R Y : List V3) : List K3 → List Xp → Bool
 | _, [] => true
 | [], _ :: _ => true
 | k :: K, b :: E => HT (colV R Y k) [61] (evX R b).1 && eqT R Y K E
theorem spX_true (R Y : List V3) : ∀ (K : List K3) (Eq l : List Xp), (∀ e ∈ l, (evX (R ++ Y) e).2 = 0) →
 ∃ E : List Xp, (spX R.length K Eq l).1 = Eq ++ E ∧ E.length ≤ K.length ∧ (∀ b ∈ E, PartOk R Y b) ∧ (∀ j, j < E.length → (K.getD j knul).2.1 = 0) ∧
  EsOk R Y (spX R.length K Eq l).2 ∧ (((spX R.length K Eq l).2.1 ≠ [] ∨ (spX R.length K Eq l).2.2.2.1 ≠ []) → E.length < K.length ∧ (K.getD E.length knul).2.1 = 0) ∧
  allT (R ++ Y) l = (eqT R Y K E && esT R Y (colV R Y (K.getD E.length knul)) (spX R.length K Eq l).2)
 | [], Eq, l, h => ⟨[], by simp [spX], by simp, by simp, by simp, ⟨by simp [spX], by simp [spX], by simp [spX], by simp [spX], fun _ => rfl, fun _ => rfl⟩, by simp [spX], by simp [spX, eqT, esT, lowT, highT]⟩
 | k :: K, Eq, l, h => by
  have stop : ∃ E : List Xp, (Eq, es0 l).1 = Eq ++ E ∧ E.length ≤ (k :: K).length ∧ (∀ b ∈ E, PartOk R Y b) ∧ (∀ j, j < E.length → ((k :: K).getD j knul).2.1 = 0) ∧
   EsOk R Y (Eq, es0 l).2 ∧ (((Eq, es0 l).2.1 ≠ [] ∨ (Eq, es0 l).2.2.2.1 ≠ []) → E.length < (k :: K).length ∧ ((k :: K).getD E.length knul).2.1 = 0) ∧
   allT (R ++ Y) l = (eqT R Y (k :: K) E && esT R Y (colV R Y ((k :: K).getD E.length knul)) (Eq, es0 l).2) :=
   ⟨[], by simp, by simp, by simp, by simp, ⟨by simp, by simp, by simp, by simp, fun _ => rfl, fun _ => rfl⟩, by simp, by simp [eqT, esT, lowT, highT]⟩
  unfold spX
  by_cases hk : k.2.1 ≠ 0 ∨ k.1 < 0
  · rw [if_pos hk]
    exact stop
  rw [if_neg hk]
  have hk0 : k.2.1 = 0 := by omega
  generalize hs : IntKind.wrap .i64 ((R.length : Int) + k.1) = s
  have hcol : colV R Y k = (R ++ Y).getD s.toNat nul := by unfold colV; rw [hs]
  cases hg : l[exN s R.length l]? with
  | none =>
   simp only
   obtain ⟨o, q⟩ := endsX_true R Y s l ([], false, [], false, []) ⟨by simp, by simp, by simp, by simp, fun _ => rfl, fun _ => rfl⟩ h
   refine ⟨[], by simp, by simp, by simp, by simp, o, fun _ => ⟨by simp, hk0⟩, ?_⟩
   rw [show (k :: K).getD ([] : List Xp).length knul = k from rfl, hcol, q]
   simp [eqT, esT, lowT, highT, allT]
  | some e =>
   simp only
   obtain ⟨hlt, he⟩ := List.getElem?_eq_some_iff.1 hg
   have h61 : (hX [61] e s R.length).1 = [61] := by
    have := List.findIdx_getElem (xs := l) (p := fun e => decide ((hX [61] e s R.length).1 = [61])) (w := hlt)
    have this : decide ((hX [61] (l[exN s R.length l]'hlt) s R.length).1 = [61]) = true := this
    rw [he] at this
    simpa using this
   have hmem : e ∈ l := he ▸ List.getElem_mem hlt
   have hsub : ∀ a ∈ l.take (exN s R.length l) ++ l.drop (exN s R.length l + 1), (evX (R ++ Y) a).2 = 0 := fun a ha => by
    simp only [List.mem_append] at ha
    rcases ha with ha | ha
    · exact h a (List.mem_of_mem_take ha)
    · exact h a (List.mem_of_mem_drop ha)
   have hsplit : allT (R ++ Y) l = (tT (evX (R ++ Y) e) && allT (R ++ Y) (l.take (exN s R.length l) ++ l.drop (exN s R.length l + 1))) := by
    have e1 : l = l.take (exN s R.length l) ++ e :: l.drop (exN s R.length l + 1) := by
     rw [← he, ← List.drop_eq_getElem_cons hlt, List.take_append_drop]
    have e2 : allT (R ++ Y) l = allT (R ++ Y) (l.take (exN s R.length l) ++ e :: l.drop (exN s R.length l + 1)) := by rw [← e1]
    rw [e2]
    simp only [allT, List.all_append, List.all_cons]
    cases (l.take (exN s R.length l)).all (fun e => tT (evX (R ++ Y) e)) <;> cases tT (evX (R ++ Y) e) <;> rfl
   rcases hX_true R Y e s (h e hmem) with ⟨k1, _⟩ | ⟨b, k2, _, pb, tt⟩ | ⟨a, b, _, k2, _⟩
   · rw [h61] at k1; cases k1
   · rw [k2]
     obtain ⟨E, q1, q2, q3, q4, q5, q6, q7⟩ := spX_true R Y K (Eq ++ [b].take 1) _ hsub
     refine ⟨b :: E, by rw [q1]; simp, by simp; omega, fun x hx => ?_, fun j hj => ?_, q5, fun g => ?_, ?_⟩
     · rcases List.mem_cons.1 hx with rfl | hx
       · exact pb
       · exact q3 x hx
     · cases j with
       | zero => exact hk0
       | succ j => exact q4 j (by simpa using hj)
     · have := q6 g
       exact ⟨by simp; omega, this.2⟩
     · rw [hsplit, q7, tt, h61, ← hcol]
       show _ = (HT (colV R Y k) [61] (evX R b).1 && eqT R Y K E && _)
       rw [Bool.and_assoc]
       rfl
   · rw [h61] at k2; cases k2
end Go.Proofs.YtodjimecekaaeaaGreatDoor
namespace Go.Proofs.YtodjimecekaaeaaGreatDoor
open Go.RowKit Go.IntWalk
set_option linter.unusedSimpArgs false
set_option linter.unusedVariables false
theorem errV_zero : ∀ (X : List (V3 × Int)), (∀ x ∈ X, x.2 = 0) → errV X = 0
 | [], _ => rfl
 | x :: X, h => by
  unfold errV
  rw [if_pos (h x (by simp))]
  exact errV_zero X fun y hy => h y (by simp [hy])
theorem HT_null (c : V3) (op : List UInt8) (b : V3) (h : c.1 = 0 ∨ b.1 = 0) : HT c op b = false := by
 unfold HT
 rcases h with h | h <;> simp [h]
theorem HT_eq (c b : V3) (h : b.1 ≠ 0) : HT c [61] b = true ↔ cmpV c b 0 = 0 := by
 unfold HT
 show ((cmpV c b 0 == 0) && (!(c.1 == 0) && !(b.1 == 0))) = true ↔ _
 simp only [Bool.and_eq_true, beq_iff_eq, Bool.not_eq_true', beq_eq_false_iff_ne, ne_eq]
 constructor
 · exact fun g => g.1
 · exact fun g => ⟨g, by rw [cv_kind g]; exact h, h⟩
theorem eqT_iff (R Y : List V3) : ∀ (K : List K3) (E : List Xp), E.length ≤ K.length → (eqT R Y K E = true ↔ ∀ j (h : j < E.length), HT (colV R Y (K.getD j knul)) [61] (evX R E[j]).1 = true)
 | K, [], _ => by cases K <;> simp [eqT]
 | [], _ :: _, h => by simp at h
 | k :: K, b :: E, h => by
  simp only [eqT, Bool.and_eq_true]
  rw [eqT_iff R Y K E (by simpa using h)]
  constructor
  · rintro ⟨h1, h2⟩ j hj
    cases j with
    | zero => exact h1
    | succ j => exact h2 j (by simpa using hj)
  · exact fun g => ⟨g 0 (by simp), fun j hj => g (j + 1) (by simpa using hj)⟩
def recZ (Y : List V3) (K : List K3) : List V3 := K.map fun k => Y.getD k.1.toNat nul
theorem recZ_at (R Y : List V3) (K : List K3) (hR : R.length ≤ 1000) (hY : Y.length ≤ 1000) (hK : ∀ k ∈ K, 0 ≤ k.1 ∧ k.1 < Y.length) (i : Nat) (hi : i < K.length) : (recZ Y K).getD i nul = colV R Y (K.getD i knul) := by
 have e : K.getD i knul = K[i] := by rw [List.getD_eq_getElem?_getD, List.getElem?_eq_getElem hi]; rfl
 obtain ⟨h1, h2⟩ := hK K[i] (List.getElem_mem hi)
 rw [e]
 unfold recZ colV
 rw [List.getD_eq_getElem?_getD, List.getElem?_map, List.getElem?_eq_getElem hi, i64_in _ (by omega)]
 simp only [Option.map_some, Option.getD_some]
 rw [show ((R.length : Int) + K[i].1).toNat = R.length + K[i].1.toNat by omega, getD_app _ _ _ _ (by omega)]
 congr 1
 omega
theorem recZ_len (Y : List V3) (K : List K3) : (recZ Y K).length = K.length := by simp [recZ]
theorem evXs_map (R : List V3) : ∀ l : List Xp, evXs R l = l.map (evX R)
 | [] => rfl
 | e :: l => by simp [evXs, evXs_map R l]
theorem in_true (R Y : List V3) (K : List K3) (E lo hi : List Xp) (lf hf : Bool) (hR : R.length ≤ 1000) (hY : Y.length ≤ 1000) (hK : ∀ k ∈ K, 0 ≤ k.1 ∧ k.1 < Y.length)
 (hE : E.length ≤ K.length) (hp : ∀ b ∈ E ++ (lo ++ hi), (evX R b).2 = 0) (h0 : ∀ j, j < E.length → (K.getD j knul).2.1 = 0) (l1 : lo.length ≤ 1) (l2 : hi.length ≤ 1)
 (hn : (lo ≠ [] ∨ hi ≠ []) → E.length < K.length ∧ (K.getD E.length knul).2.1 = 0) :
 inX (boundsX (evXs R E) (evXs R lo) (evXs R hi)) E.length lf hf (recZ Y K) K = (eqT R Y K E && (lowT R (colV R Y (K.getD E.length knul)) lo lf && highT R (colV R Y (K.getD E.length knul)) hi hf), 0) := by
 have hall : evXs R E ++ (evXs R lo ++ evXs R hi) = (E ++ (lo ++ hi)).map (evX R) := by simp [evXs_map]
 have he : errV (evXs R E ++ (evXs R lo ++ evXs R hi)) = 0 := by
  rw [hall]
  refine errV_zero _ fun x hx => ?_
  obtain ⟨b, hb, rfl⟩ := List.mem_map.1 hx
  exact hp b hb
 generalize hc : colV R Y (K.getD E.length knul) = c
 by_cases hnul : nulB (evXs R E ++ (evXs R lo ++ evXs R hi)) = true
 · -- some end is NULL
   have hb : boundsX (evXs R E) (evXs R lo) (evXs R hi) = ([], [], true, 0) := by rw [boundsX, if_neg (by omega), if_pos hnul]
   rw [hb, inX, if_pos (.inr rfl)]
   rw [hall] at hnul
   unfold nulB at hnul
   rw [List.any_map, List.any_eq_true] at hnul
   obtain ⟨b, hb, hz⟩ := hnul
   have hz : (evX R b).1.1 = 0 := by simpa using hz
   have : (eqT R Y K E && (lowT R c lo lf && highT R c hi hf)) = false := by
    simp only [List.mem_append] at hb
    rcases hb with hb | hb | hb
    · have : eqT R Y K E = false := by
       rw [← Bool.not_eq_true, eqT_iff R Y K E hE]
       intro g
       obtain ⟨j, hj, rfl⟩ := List.getElem_of_mem hb
       have := g j hj
       rw [HT_null _ _ _ (.inr hz)] at this
       cases this
      rw [this]; rfl
    · match lo, l1, hb with
      | [x], _, hb =>
       simp only [List.mem_singleton] at hb
       subst hb
       show (_ && (HT _ _ _ && _)) = false
       rw [HT_null _ _ _ (.inr hz)]
       simp
      | _ :: _ :: _, h, _ => simp at h
    · match hi, l2, hb with
      | [x], _, hb =>
       simp only [List.mem_singleton] at hb
       subst hb
       show (_ && (_ && HT _ _ _)) = false
       rw [HT_null _ _ _ (.inr hz)]
       simp
      | _ :: _ :: _, h, _ => simp at h
   rw [this]
 · have hb : boundsX (evXs R E) (evXs R lo) (evXs R hi) = ((evXs R E).map (·.1) ++ (evXs R lo).map (·.1), (evXs R E).map (·.1) ++ (evXs R hi).map (·.1), false, 0) := by rw [boundsX, if_neg (by omega), if_neg hnul]
   have nn : ∀ b ∈ E ++ (lo ++ hi), (evX R b).1.1 ≠ 0 := fun b hb hz => hnul (by
    rw [hall]
    unfold nulB
    rw [List.any_map, List.any_eq_true]
    exact ⟨b, hb, by simpa using hz⟩)
   have lE : ((evXs R E).map (·.1)).length = E.length := by rw [List.length_map, evXs_len]
   have atE : ∀ (T : List V3) j (h : j < E.length), ((evXs R E).map (·.1) ++ T).getD j nul = (evX R E[j]).1 := fun T j h => by
    rw [List.getD_eq_getElem?_getD, List.getElem?_append_left (by omega), evXs_map, List.getElem?_map, List.getElem?_map, List.getElem?_eq_getElem h]
    rfl
   have atN : ∀ b : V3, ((evXs R E).map (·.1) ++ [b]).getD E.length nul = b := fun b => by
    rw [getD_app _ _ _ _ (by omega), lE]; simp
   rw [hb, inX, if_neg (by simp)]
   simp only
   have eqn : eqN (recZ Y K) ((evXs R E).map (·.1) ++ (evXs R lo).map (·.1)) K E.length = eqT R Y K E := by
    rw [Bool.eq_iff_iff, eqT_iff R Y K E hE]
    unfold eqN
    rw [List.all_eq_true]
    constructor
    · intro g j hj
      have := of_decide_eq_true (g j (List.mem_range.2 hj))
      unfold cAt at this
      rw [atE _ j hj, recZ_at R Y K hR hY hK j (by omega), h0 j hj] at this
      exact (HT_eq _ _ (nn _ (by simp))).2 this
    · intro g j hj
      have hj := List.mem_range.1 hj
      have := (HT_eq _ _ (nn E[j] (by simp))).1 (g j hj)
      refine decide_eq_true ?_
      unfold cAt
      rw [atE _ j hj, recZ_at R Y K hR hY hK j (by omega), h0 j hj]
      exact this
   rw [eqn]
   by_cases g1 : eqT R Y K E = false
   · rw [if_pos g1, g1]; rfl
   rw [if_neg g1]
   have g1 : eqT R Y K E = true := by simpa using g1
   rw [g1, Bool.true_and]
   simp only [List.length_append, lE, List.length_map, evXs_len]
   by_cases g2 : lo = [] ∧ hi = []
   · obtain ⟨rfl, rfl⟩ := g2
     rw [if_pos (by simp)]; rfl
   have hor : lo ≠ [] ∨ hi ≠ [] := by
    by_cases g : lo = []
    · exact .inr fun e => g2 ⟨g, e⟩
    · exact .inl g
   obtain ⟨n1, n2⟩ := hn hor
   have g3 : ¬ (E.length + lo.length = E.length ∧ E.length + hi.length = E.length) := fun e => g2 ⟨List.length_eq_zero_iff.1 (by omega), List.length_eq_zero_iff.1 (by omega)⟩
   rw [if_neg g3, recZ_at R Y K hR hY hK _ n1, hc]
   have cc : ∀ b : V3, cAt (recZ Y K) ((evXs R E).map (·.1) ++ [b]) K E.length = cmpV c b 0 := fun b => by
    unfold cAt
    rw [atN, recZ_at R Y K hR hY hK _ n1, hc, n2]
   by_cases g4 : c.1 = 0
   · rw [if_pos g4]
     have : (lowT R c lo lf && highT R c hi hf) = false := by
      rcases hor with g | g
      · match lo, g with
        | x :: _, _ =>
         show (HT _ _ _ && _) = false
         rw [HT_null _ _ _ (.inl g4)]; rfl
      · match hi, g with
        | x :: _, _ =>
         show (_ && HT _ _ _) = false
         rw [HT_null _ _ _ (.inl g4)]; simp
     rw [this]
   rw [if_neg g4]
   have ht : ∀ (op : List UInt8) (b : V3), b.1 ≠ 0 → HT c op b = relB op (cmpV c b 0) := fun op b h => by
    unfold HT
    have e1 : (c.1 == 0) = false := by simpa using g4
    have e2 : (b.1 == 0) = false := by simpa using h
    rw [e1, e2]; simp
   have low : (E.length < E.length + lo.length ∧ (cAt (recZ Y K) ((evXs R E).map (·.1) ++ (evXs R lo).map (·.1)) K E.length < 0 ∨ (cAt (recZ Y K) ((evXs R E).map (·.1) ++ (evXs R lo).map (·.1)) K E.length = 0 ∧ lf = true))) ↔ lowT R c lo lf = false := by
    rcases len01 (l := lo) (by omega) with rfl | ⟨b, rfl⟩
    · simp [lowT]
    · have hb := nn b (by simp)
      show (_ ∧ (cAt _ ((evXs R E).map (·.1) ++ [(evX R b).1]) K E.length < 0 ∨ _)) ↔ HT c (if lf = true then [62] else [62, 61]) (evX R b).1 = false
      rw [show (evXs R [b]).map (·.1) = [(evX R b).1] from rfl, cc, ht _ _ hb]
      cases lf with
      | true =>
       rw [if_pos rfl]
       show _ ↔ decide (0 < cmpV c (evX R b).1 0) = false
       rw [decide_eq_false_iff_not]
       simp only [List.length_cons, List.length_nil, and_true]
       omega
      | false =>
       rw [if_neg (by simp)]
       show _ ↔ decide (0 ≤ cmpV c (evX R b).1 0) = false
       rw [decide_eq_false_iff_not]
       simp only [List.length_cons, List.length_nil, Bool.false_eq_true, and_false, or_false]
       omega
   have high : (E.length < E.length + hi.length ∧ (0 < cAt (recZ Y K) ((evXs R E).map (·.1) ++ (evXs R hi).map (·.1)) K E.length ∨ (cAt (recZ Y K) ((evXs R E).map (·.1) ++ (evXs R hi).map (·.1)) K E.length = 0 ∧ hf = true))) ↔ highT R c hi hf = false := by
    rcases len01 (l := hi) (by omega) with rfl | ⟨b, rfl⟩
    · simp [highT]
    · have hb := nn b (by simp)
      show (_ ∧ (0 < cAt _ ((evXs R E).map (·.1) ++ [(evX R b).1]) K E.length ∨ _)) ↔ HT c (if hf = true then [60] else [60, 61]) (evX R b).1 = false
      rw [show (evXs R [b]).map (·.1) = [(evX R b).1] from rfl, cc, ht _ _ hb]
      cases hf with
      | true =>
       rw [if_pos rfl]
       show _ ↔ decide (cmpV c (evX R b).1 0 < 0) = false
       rw [decide_eq_false_iff_not]
       simp only [List.length_cons, List.length_nil, and_true]
       omega
      | false =>
       rw [if_neg (by simp)]
       show _ ↔ decide (cmpV c (evX R b).1 0 ≤ 0) = false
       rw [decide_eq_false_iff_not]
       simp only [List.length_cons, List.length_nil, Bool.false_eq_true, and_false, or_false]
       omega
   by_cases g5 : lowT R c lo lf = false
   · rw [if_pos (low.2 g5), g5]; rfl
   rw [if_neg (fun e => g5 (low.1 e))]
   have g5 : lowT R c lo lf = true := by simpa using g5
   rw [g5, Bool.true_and]
   by_cases g6 : highT R c hi hf = false
   · rw [if_pos (high.2 g6), g6]
   · rw [if_neg (fun e => g6 (high.1 e))]
     have g6 : highT R c hi hf = true := by simpa using g6
     rw [g6]
end Go.Proofs.YtodjimecekaaeaaGreatDoor
namespace Go.Proofs.YtodjimecekaaeaaGreatDoor
open Go.RowKit Go.IntWalk
set_option linter.unusedSimpArgs false
set_option linter.unusedVariables false
theorem endS_rest (s fr : Int) (t : ES) (e : Xp) : ∀ a ∈ (endS s fr t e).2.2.2.2, a ∈ t.2.2.2.2 ∨ a = e := by
 intro a ha
 unfold endS at ha
 split at ha
 · exact .inl ha
 · split at ha
   · exact .inl ha
   · split at ha
     · exact .inl ha
     · simp only [List.mem_append, List.mem_singleton] at ha
       exact ha
theorem endsX_rest (s fr : Int) : ∀ (l : List Xp) (t : ES), ∀ a ∈ (endsX s fr t l).2.2.2.2, a ∈ t.2.2.2.2 ∨ a ∈ l
 | [], t, a, ha => .inl ha
 | e :: l, t, a, ha => by
  rcases endsX_rest s fr l (endS s fr t e) a ha with h | h
  · rcases endS_rest s fr t e a h with h | rfl
    · exact .inl h
    · exact .inr (by simp)
  · exact .inr (by simp [h])
theorem spX_rest (fr : Int) : ∀ (K : List K3) (Eq l : List Xp), ∀ a ∈ (spX fr K Eq l).2.2.2.2.2, a ∈ l
 | [], Eq, l, a, ha => ha
 | k :: K, Eq, l, a, ha => by
  unfold spX at ha
  split at ha
  · exact ha
  · split at ha
    · have := spX_rest fr K _ _ a ha
      simp only [List.mem_append] at this
      rcases this with h | h
      · exact List.mem_of_mem_take h
      · exact List.mem_of_mem_drop h
    · rcases endsX_rest _ _ l _ a ha with h | h
      · simp at h
      · exact h
theorem allV_ok : ∀ X : List (V3 × Int), (∀ x ∈ X, x.2 = 0 ∧ (tru x.1).2.2 = 0) → allV X = (X.all tT, 0)
 | [], _ => rfl
 | x :: X, h => by
  obtain ⟨h1, h2⟩ := h x (by simp)
  have ih := allV_ok X fun y hy => h y (by simp [hy])
  unfold allV
  rw [if_neg (by omega), ih]
  simp only [List.all_cons]
  by_cases c : (tru x.1).1 = true
  · rw [if_neg (by rintro (g | g); exact g h2; exact g c), show tT x = true from c]; rfl
  · rw [if_pos (.inr c), show tT x = false by simpa [tT] using c, h2]; rfl
theorem allV_one {x : V3 × Int} (h1 : x.2 = 0) (h : (allV [x]).2 = 0) : (tru x.1).2.2 = 0 := by
 unfold allV at h
 rw [if_neg (by omega)] at h
 split at h
 · exact h
 · rename_i g
   exact Classical.byContradiction fun e => g (.inl e)
theorem Fair_args : ∀ e : Xp, Fair e → ∀ a ∈ xargs e, Fair a
 | .mk k op v tb nm sl nt ds args, h => by
  simp only [Fair] at h
  exact fun a ha => h.2.2.2.at a ha
theorem xs_cut (l : List Xp) (J : Nat) (h : J < l.length) : ((xcs l).drop ((J : Nat) : Int).toNat).take (((J : Int) + 1) - (J : Int)).toNat = xcs [l[J]] := by
 rw [Int.toNat_natCast, show (((J : Int) + 1) - (J : Int)).toNat = 1 by omega, xcs_dropS, xcs_take, List.drop_eq_getElem_cons h]
 rfl
theorem walkMeans (l : List Xp) (fr : Int) (c : Cs) (xi : Xis l) (xn : Xns l ≤ 1048576) (ok : c.Ok) : FnC Tryz.prog 5 [.c (.vs (xcs l)), iD fr, .agg c.cells] (bD true) := by
 obtain ⟨Eq0, Lo0, Hi0, lo0, ho0, R, Y, K⟩ := c
 obtain ⟨_, _, _, qR, qY, qK, lR, lY, lK⟩ := ok
 simp only at qR qY qK lR lY lK
 have hl := Xns_lenS l
 have hm : l.length ≤ maxLen := by unfold maxLen; omega
 refine w5 (xcs l) fr (xcs Eq0) (xcs Lo0) (xcs Hi0) lo0 ho0 (vc R) (vc Y) (kc K) ?_
 simp only [vc_len, kc_len]
 refine ⟨true, c_awake, greatL 12 l, fun _ => c_great 12 (by omega) l xi hm, _, fun _ => c_fairL l R xi xn lR, _, fun _ => c_fairL l Y xi xn lY, fun _ => ⟨true, c_awake, rfl⟩, fun h => ?_⟩
 simp only [not_or, Classical.not_not] at h
 obtain ⟨⟨⟨⟨⟨⟨_, hg⟩, hK⟩, hR⟩, hY⟩, fR⟩, fY⟩ := h
 have l40 : l.length ≤ 40 := by
  simp only [greatL, Bool.or_eq_true, not_or, decide_eq_true_eq] at hg
  omega
 intro x14 e14
 subst e14
 simp only [List.length_nil, List.nil_append]
 refine ⟨vc_sz _, by omega, fun x15 e15 => ?_⟩
 subst e15
 rw [vc_len]
 refine ⟨vc_sz _, by omega, fun x16 e16 => ?_⟩
 rw [vc_app] at e16
 subst e16
 have gR := fairL_all fR xi qR
 have gY := fairL_all fY xi qY
 have gA : ∀ e ∈ l, Fair e ∧ ∀ a ∈ R ++ Y, Gd a := fun e he => ⟨(gR e he).1, fun a ha => by
  rcases List.mem_append.1 ha with ha | ha
  · exact (gR e he).2 a ha
  · exact (gY e he).2 a ha⟩
 refine ⟨fun b i m => ∃ J : Nat, i = J ∧ J ≤ K.length ∧ m = K.length - J ∧ b = vc (recZ Y (K.take J)) ∧ ∀ k ∈ K.take J, 0 ≤ k.1 ∧ k.1 < Y.length, ⟨_, 0, rfl, by omega, rfl, by simp [recZ, vc], by simp⟩, ?_⟩
 rintro m b i ⟨J, rfl, hJ, rfl, rfl, hk⟩
 refine ⟨fun hi => ?_, fun hi => ?_⟩
 · have hj : J < K.length := by omega
   have e0 : K.getD J knul = K[J] := by rw [List.getD_eq_getElem?_getD, List.getElem?_eq_getElem hj]; rfl
   rw [kc_0 K _ (by omega) hi, Int.toNat_natCast, e0]
   refine ⟨by omega, kc_sz _, kc_k0 K _ (by omega) hi, fun _ => trivial, fun g => ⟨by omega, vc_sz _, vc_k Y _ (by omega) (by omega), fun x19 e19 => ?_⟩⟩
   rw [vc_one Y _ (by omega) (by omega)] at e19
   have lz : (recZ Y (K.take J)).length ≤ K.length := by rw [recZ_len, List.length_take]; omega
   have l19 : x19.length = 1 := by rw [e19]; rfl
   rw [vc_len, l19]
   refine ⟨by omega, fun x20 e20 => ⟨K.length - (J + 1), by omega, J + 1, by rw [i64_in _ (by omega)]; omega, by omega, rfl, ?_, ?_⟩⟩
   · rw [e20, e19, vc_app, List.take_add_one, List.getElem?_eq_getElem hj]
     unfold recZ
     rw [List.map_append]
     rfl
   · rw [List.take_add_one, List.getElem?_eq_getElem hj]
     intro k hk2
     rcases List.mem_append.1 hk2 with hk2 | hk2
     · exact hk k hk2
     · have hk2 : k = K[J] := by simpa using hk2
       subst hk2
       omega
 have eJ : J = K.length := by omega
 rw [eJ, List.take_length] at hk ⊢
 refine ⟨fun i m => ∃ J : Nat, i = J ∧ J ≤ l.length ∧ m = l.length - J ∧ ∀ j (h : j < l.length), j < J → (evX (R ++ Y) l[j]).2 = 0 ∧ (tru (evX (R ++ Y) l[j]).1).2.2 = 0, ⟨_, 0, rfl, by omega, rfl, fun j _ h => absurd h (by omega)⟩, ?_⟩
 rw [xcs_len]
 rintro m i ⟨J, rfl, hJ, rfl, h0⟩
 refine ⟨fun hi => ?_, fun hi => ?_⟩
 · have hj : J < l.length := by omega
   have f := gA _ (List.getElem_mem hj)
   rw [xs_D l _ (by omega) hi, i64_in ((J : Int) + 1) (by omega), xs_cut l J hj]
   simp only [Int.toNat_natCast]
   refine ⟨by omega, xcs_sz _, xs_k l J (by omega) hi, _, _, _, _, c_RvX (R ++ Y) f.2 l[J] f.1, fun _ => trivial, fun g => ⟨by omega, xcs_sz _, _, _, c_rAll [l[J]] (R ++ Y) (by simp) [evX (R ++ Y) l[J]] rfl (fun i h => ?_), fun _ => trivial, fun g2 => ⟨l.length - (J + 1), by omega, J + 1, by omega, by omega, rfl, fun j h1 h2 => ?_⟩⟩⟩
   · match i, h with
     | 0, _ => exact c_RvX (R ++ Y) f.2 l[J] f.1
   · by_cases cj : j = J
     · subst cj
       have g := Classical.not_not.1 g
       exact ⟨g, allV_one g (Classical.not_not.1 g2)⟩
     · exact h0 j h1 (by omega)
 have noErr : ∀ e ∈ l, (evX (R ++ Y) e).2 = 0 ∧ (tru (evX (R ++ Y) e).1).2.2 = 0 := fun e he => by
  obtain ⟨j, hj, rfl⟩ := List.getElem_of_mem he
  exact h0 j hj (by omega)
 obtain ⟨E, q1, q2, q3, q4, q5, q6, q7⟩ := spX_true R Y K [] l fun e he => (noErr e he).1
 rw [List.nil_append] at q1
 have gp := spX_all (P := fun e => Fair e ∧ ∀ a ∈ R, Gd a) (fun e he a ha => ⟨Fair_args e he.1 a ha, he.2⟩) R.length K [] l (by simp) gR
 have sub := spX_rest R.length K [] l
 have hlen := spX_len R.length K [] l
 have cOf := c_spOf l R.length K (by omega) (by omega)
 generalize spX R.length K [] l = S at *
 obtain ⟨E', lo, lf, hi', hf, rest⟩ := S
 simp only at q1 q5 q6 q7 gp sub hlen
 subst q1
 obtain ⟨o1, o2, o3, o4, o5, o6⟩ := q5
 simp only at o1 o2 o3 o4 o5 o6
 have tk : ∀ M : List Xp, M.length ≤ 1 → M.take 1 = M := fun M h => List.take_of_length_le h
 obtain ⟨r, b1, _, hr, s1, s2⟩ := ends_both E' lo hi' lf hf R (by omega) (by omega) (fun e he => by
  simp only [List.mem_append] at he
  rcases he with (he | he) | he
  · exact gp.1 e he
  · exact gp.2.1 e he
  · exact gp.2.2.1 e he)
 have hlr : ¬ (r.2.2.2 ≠ 0 ∨ r.2.2.1 = true) → r.1.length = E'.length + (lo.take 1).length ∧ r.2.1.length = E'.length + (hi'.take 1).length := fun g => by
  rw [hr] at g ⊢
  have := boundsX_len _ _ _ g
  simpa only [evXs_len] using this
 have zSz : Szs (recZ Y K) := fun v hv => by
  unfold recZ at hv
  obtain ⟨k, hk2, rfl⟩ := List.mem_map.1 hv
  exact (vals_szs qY).at _
 have cIn := c_spIn E' lo hi' lf hf R (recZ Y K) K r (by omega) (by omega) (by omega) b1 hlr zSz s1 s2
 have hin : inX r E'.length lf hf (recZ Y K) K = (eqT R Y K E' && (lowT R (colV R Y (K.getD E'.length knul)) lo lf && highT R (colV R Y (K.getD E'.length knul)) hi' hf), 0) := by
  rw [hr, tk lo o1, tk hi' o2]
  exact in_true R Y K E' lo hi' lf hf (by omega) (by omega) hk q2 (fun b hb => by
   have : PartOk R Y b := by
    simp only [List.mem_append] at hb
    rcases hb with hb | hb | hb
    · exact q3 b hb
    · exact o3 b hb
    · exact o4 b hb
   rw [this.2]; exact this.1) q4 o1 o2 q6
 have all1 := c_rAll l (R ++ Y) (by omega) (evXs (R ++ Y) l) (evXs_len _ l) (fun i h => by
  rw [evXs_get _ l i h]
  have f := gA _ (List.getElem_mem h)
  exact c_RvX (R ++ Y) f.2 _ f.1)
 have all2 := c_rAll rest (R ++ Y) (by omega) (evXs (R ++ Y) rest) (evXs_len _ rest) (fun i h => by
  rw [evXs_get _ rest i h]
  have f := gA _ (sub _ (List.getElem_mem h))
  exact c_RvX (R ++ Y) f.2 _ f.1)
 have av : ∀ M : List Xp, (∀ e ∈ M, e ∈ l) → allV (evXs (R ++ Y) M) = (allT (R ++ Y) M, 0) := fun M hM => by
  rw [allV_ok, evXs_map]
  · unfold allT
    rw [List.all_map]; rfl
  · intro x hx
    obtain ⟨e, he, rfl⟩ := evXs_mem _ M x hx
    exact noErr e (hM e he)
 rw [av l fun e he => he] at all1
 rw [av rest sub] at all2
 rw [hin] at cIn
 refine ⟨_, _, _, _, _, _, cOf, _, _, all1, _, _, cIn, _, _, all2, ?_⟩
 rw [q7]
 unfold esT
 cases eqT R Y K E' <;> cases lowT R (colV R Y (K.getD E'.length knul)) lo lf <;> cases highT R (colV R Y (K.getD E'.length knul)) hi' hf <;> cases allT (R ++ Y) rest <;> rfl
end Go.Proofs.YtodjimecekaaeaaGreatDoor
