/- Two sorters side by side. No condition. Are rows few, and short? Conditions: fewer than 2^62 values in each. The document's sorter: made, added to, asked. Conditions: at most 2^16 rows. A sorter and the document's, side by side, while rows are handed in and written to. No condition. A copy of a row, and rows that may be written. No condition. What SorterPlays computes: true. Conditions: at most 2^20 keys; rows that an argument can hold. From the given reading of keys and rows to closed data, and how much they are. No condition. -/
import Derived.Test.YtdgjcdhomfhfpaaSz
import Derived.Test.YtdgjcdhomfhfpaaOz
import Derived.Laws.AppendOwn
import Derived.Test.YtdgjcdhomfhfpaaRows
import Derived.Lib.SmallJoins
namespace Go.Proofs.Ytdgjcdhomfhfpaa
open Go.RowKit Go.IntWalk
set_option linter.unusedSimpArgs false
set_option linter.unusedVariables false

abbrev NoX : Nat → Prop := fun _ => False
/-- two sorters of one's own, made since w, by the same keys, of the same rows -/
structure Two (K : List K3) (na nb : Nat) (w : World) (sa sb : Nat) (LL LM : List (List V3)) (W : World) (ta tb : Option (Nat × Nat)) : Prop where
  ga : w.heap.size ≤ sa
  gb : w.heap.size ≤ sb
  ha : ∀ b, AtB ta b → w.heap.size ≤ b
  hb : ∀ b, AtB tb b → w.heap.size ≤ b
  hB : Below w.heap.size w W
  A : SorP K na (fun _ => True) LL W (OwnO NoX sb tb) sa ta
  B : SorP K nb (fun _ => True) LM W (OwnO NoX sa ta) sb tb
section
variable {K : List K3} {na nb : Nat} {w : World} {sa sb : Nat} {LL LM : List (List V3)} {W W' : World} {ta tb : Option (Nat × Nat)}
theorem Two.below (h : Two K na nb w sa sb LL LM W ta tb) (hB : Below W.heap.size W W') : Two K na nb w sa sb LL LM W' ta tb :=
  ⟨h.ga, h.gb, h.ha, h.hb, h.hB.trans (hB.mono h.hB.size), h.A.step (fun b _ h => hB.block b h) (fun b h => .inl h) hB.size, h.B.step (fun b _ h => hB.block b h) (fun b h => .inl h) hB.size⟩
theorem Two.swap (h : Two K na nb w sa sb LL LM W ta tb) : Two K nb na w sb sa LM LL W tb ta := ⟨h.gb, h.ga, h.hb, h.ha, h.hB, h.B, h.A⟩
theorem SorP.own_lt {n : Nat} {P : Nat → Prop} {X : Nat → Prop} (h : SorP K n P LL W X sa ta) : ∀ b, OwnO NoX sa ta b → b < W.heap.size := fun b hb => by
  rcases hb with hb | rfl | hb
  · exact hb.elim
  · exact h.lt
  · exact (h.row b hb).1
theorem Two.addA (h : Two K na nb w sa sb LL LM W ta tb) (hl : LL.length < 65536) {L : List V3} (hL : L.length ≤ 1048576) {x : Value} (hx : CVR w NoX (.vs (vc L)) x) :
    Calls Try.prog 10 #[.pointer (some ⟨sa, 0, none⟩), x] W fun e w' => e = .returned (.int .i64 0) ∧ ∃ ta', Two K na nb w sa sb (LL ++ [L]) LM w' ta' tb := by
  have hge : ∀ b, OwnO (OwnO NoX sb tb) sa ta b → w.heap.size ≤ b := fun b hb => by
    rcases hb with (hb | rfl | hb) | rfl | hb
    · exact hb.elim
    · exact h.gb
    · exact h.hb b hb
    · exact h.ga
    · exact h.ha b hb
  refine Calls.mono (h.A.add h.B.own_lt hl (lo := 0) (fun _ _ => trivial) hL (rowQ_of (hx.step ⟨fun b _ hlt => h.hB.block b hlt, fun b hb => .inr (hge b hb), h.hB.size⟩) (Nat.zero_le _))) ?_
  rintro e w' ⟨he, ta', ht⟩
  have hz := h.hB.size
  refine ⟨he, ta', ⟨h.ga, h.gb, fun b hb => ?_, h.hb, ht.turn.below h.hB hz h.ga h.ha, ht.sor, h.B.step (fun b hb hlt => ht.turn.heap b hlt (fun e => hb (.inr (.inl e))) (fun e => hb (.inr (.inr e)))) (fun b hb => ?_) ht.turn.size⟩⟩
  · rcases ht.own b hb with h1 | h1
    · exact h.ha b h1
    · omega
  · rcases hb with hb | hb | hb
    · exact hb.elim
    · exact .inl (.inr (.inl hb))
    · rcases ht.own b hb with h1 | h1
      · exact .inl (.inr (.inr h1))
      · exact .inr h1
theorem Two.addB (h : Two K na nb w sa sb LL LM W ta tb) (hl : LM.length < 65536) {L : List V3} (hL : L.length ≤ 1048576) {x : Value} (hx : CVR w NoX (.vs (vc L)) x) :
    Calls Try.prog 10 #[.pointer (some ⟨sb, 0, none⟩), x] W fun e w' => e = .returned (.int .i64 0) ∧ ∃ tb', Two K na nb w sa sb LL (LM ++ [L]) w' ta tb' := by
  refine Calls.mono (h.swap.addA hl hL hx) ?_
  rintro e w' ⟨he, tb', ht⟩
  exact ⟨he, tb', ht.swap⟩
theorem Two.start {W1 W2 : World} (hA : LvS K na w sa [] W1 none) (hb : W1.heap.size ≤ sb) (hB : Below W1.heap.size W1 W2) (hS : SorP K nb (fun _ => True) [] W2 (OwnO NoX sa none) sb none) : Two K na nb w sa sb [] [] W2 none none := by
  have hz := hA.hB.size
  refine ⟨hA.ge, by omega, fun b ⟨_, h⟩ => (by cases h), fun b ⟨_, h⟩ => (by cases h), hA.hB.trans (hB.mono hz), hA.sor.step (fun b _ h => hB.block b h) (fun b h => ?_) hB.size, hS⟩
  rcases h with h | rfl | ⟨_, h⟩
  · exact .inl h
  · exact .inr hb
  · cases h
theorem Two.sortA (h : Two K na nb w sa sb LL LM W ta tb) (h1 : 1 ≤ na) (h2 : na ≤ 65536) : SortN K LL na NoX W (.pointer (some ⟨sa, 0, none⟩)) := .inr ⟨sa, rfl, h.A.lt, h.A.sortR h1 h2⟩
theorem Two.sortB (h : Two K na nb w sa sb LL LM W ta tb) (h1 : 1 ≤ nb) (h2 : nb ≤ 65536) : SortN K LM nb NoX W (.pointer (some ⟨sb, 0, none⟩)) := .inr ⟨sb, rfl, h.B.lt, h.B.sortR h1 h2⟩
end
end Go.Proofs.Ytdgjcdhomfhfpaa
namespace Go.Proofs.Ytdgjcdhomfhfpaa
open Go.RowKit Go.IntWalk
set_option linter.unusedSimpArgs false
set_option linter.unusedVariables false

def smallL (LL : List (List V3)) : Bool := decide (LL.length ≤ 200) && LL.all fun L => decide (L.length ≤ 20)
theorem small_at {LL : List (List V3)} {I : Nat} (hI : I < LL.length) : (LL.drop I).all (fun L => decide (L.length ≤ 20)) = (decide ((LL.getD I []).length ≤ 20) && (LL.drop (I + 1)).all fun L => decide (L.length ≤ 20)) := by
  rw [List.drop_eq_getElem_cons hI, List.all_cons, List.getD_eq_getElem?_getD, List.getElem?_eq_getElem hI]
  rfl
theorem c_small (LL : List (List V3)) (hn : LL.length ≤ 4611686018427387903) : FnC Try.prog 8 [.c (.vs (rcL LL))] (bD (smallL LL)) := by
  refine w8 (rcL LL) ?_
  rw [rcL_len]
  refine ⟨fun h => ?_, fun h => ⟨fun x k => ∃ I : Nat, x = I ∧ I ≤ LL.length ∧ smallL LL = (LL.drop I).all (fun L => decide (L.length ≤ 20)) ∧ k = LL.length - I, ⟨_, 0, rfl, by omega, ?_, rfl⟩, ?_⟩⟩
  · have : smallL LL = false := by unfold smallL; rw [decide_eq_false (by omega)]; rfl
    rw [this]
  · unfold smallL; rw [decide_eq_true (by omega)]; simp
  rintro k x ⟨I, rfl, hI, hs, rfl⟩
  refine ⟨fun hi => ?_, fun hi => ?_⟩
  · have hI' : I < LL.length := by omega
    have hsm := small_at hI'
    have e0 : (cellAt (rcL LL) I 0).els = vc (LL.getD I []) := by
      simp [cellAt, rcL, hI']
      rfl
    rw [e0, vc_len, i64_in _ (by omega : -9223372036854775808 ≤ (I : Int) + 1 ∧ (I : Int) + 1 ≤ 9223372036854775807)]
    refine ⟨by omega, rcL_sz LL, rcL_k LL _ (by omega) hi, fun hl => ?_, fun hl => ⟨LL.length - (I + 1), by omega, I + 1, by omega, by omega, ?_, rfl⟩⟩
    · rw [hs, hsm, decide_eq_false (by omega)]; rfl
    · rw [hs, hsm, decide_eq_true (by omega)]; simp
  · have : I = LL.length := by omega
    subst this
    rw [hs, List.drop_length]
    rfl
theorem small_ok {LL : List (List V3)} (h : smallL LL = true) : LL.length ≤ 200 ∧ ∀ L ∈ LL, L.length ≤ 20 := by
  unfold smallL at h
  rw [Bool.and_eq_true, decide_eq_true_eq, List.all_eq_true] at h
  exact ⟨h.1, fun L hL => by simpa using h.2 L hL⟩
end Go.Proofs.Ytdgjcdhomfhfpaa
namespace Go.Proofs.Ytdgjcdhomfhfpaa
open Go.RowKit Go.IntWalk
set_option linter.unusedSimpArgs false
set_option linter.unusedVariables false

/-- the document's sorter, as closed data -/
abbrev docD (z : Int) (K : List K3) (LL : List (List V3)) : DV := .agg [.v (.int .i64 z), .vs (kc K), .vs (rcL LL)]
theorem c_dNew0 (z : Int) (K : List K3) (hK : K.length ≤ Lim) (h : newE z K = 0) : FnC Try.prog 7 [iD z, .c (.vs (kc K))] (.tup [docD z K [], iD 0]) := by
  unfold newE at h
  split at h
  · cases h
  · rename_i hz
    refine w7 z (kc K) ⟨fun h1 => absurd h1 hz, fun _ => ⟨chkK K, c_r6Check K hK, fun h1 => absurd h h1, fun _ => rfl⟩⟩
theorem c_dNew1 (z : Int) (K : List K3) (hK : K.length ≤ Lim) (h : newE z K ≠ 0) : FnC Try.prog 7 [iD z, .c (.vs (kc K))] (.tup [docD 0 [] [], iD (newE z K)]) := by
  unfold newE at h ⊢
  split
  · rename_i hz
    exact w7 z (kc K) ⟨fun _ => rfl, fun h1 => absurd hz h1⟩
  · rename_i hz
    rw [if_neg hz] at h
    exact w7 z (kc K) ⟨fun h1 => absurd h1 hz, fun _ => ⟨chkK K, c_r6Check K hK, fun _ => rfl, fun h1 => absurd h h1⟩⟩
theorem c_dAdd (n : Nat) (K : List K3) (LL : List (List V3)) (L : List V3) (hl : LL.length < 65536) : FnC Try.prog 11 [docD n K LL, .c (.vs (vc L))] (.tup [docD n K (LL ++ [L]), iD 0]) := by
  have h1 := rcL_len LL
  refine w11 n (kc K) (rcL LL) (vc L) ⟨fun h => by omega, fun _ x4 e4 => ?_⟩
  subst e4
  refine ⟨rcL_sz LL, by simp only [List.length_nil]; omega, fun x5 e5 x6 e6 => ?_⟩
  subst e5 e6
  refine ⟨by simp only [List.nil_append, List.length_cons, List.length_nil]; omega, fun x7 e7 => ?_⟩
  subst e7
  have hc : rcL (LL ++ [L]) = rcL LL ++ [[.vs (vc L)]] := by simp [rcL]
  show _ = DV.tup [.agg [_, _, .vs (rcL (LL ++ [L]))], _]
  rw [List.nil_append, hc]
theorem c_dRuns (n : Nat) (hn : 1 ≤ n) (hn2 : n ≤ 65536) (K : List K3) (LL : List (List V3)) (hl : LL.length ≤ 65536) : FnC Try.prog 14 [docD n K LL] (iD ((LL.length + n - 1) / n : Nat)) := by
  have h1 := rcL_len LL
  refine w14 n (kc K) (rcL LL) ⟨by omega, ?_⟩
  rw [h1, i64_in ((LL.length : Int) + n) (by omega), i64_in ((LL.length : Int) + n - 1) (by omega)]
  rw [show (LL.length : Int) + n - 1 = ((LL.length + n - 1 : Nat) : Int) by omega, ← Int.ofNat_tdiv]
  have hle : (LL.length + n - 1) / n ≤ LL.length + n - 1 := Nat.div_le_self _ _
  generalize (LL.length + n - 1) / n = q at hle ⊢
  rw [i64_in _ (by omega)]
theorem c_dRows (n : Nat) (K : List K3) (hK : K.length ≤ Lim) (LL : List (List V3)) (hl : RowsOk LL) : FnC Try.prog 17 [docD n K LL] (.c (.vs (rcL (sortL K LL)))) :=
  w17 n (kc K) (rcL LL) ⟨rcL (sortL K LL), c_r6Sort LL K hl hK, rfl⟩
theorem canDNew : CanEnter Try.prog 7 := canEnter_of Try.func7 (by kernel_rfl) (by kernel_rfl)
theorem canDAdd : CanEnter Try.prog 11 := canEnter_of Try.func11 (by kernel_rfl) (by kernel_rfl)
theorem canDRuns : CanEnter Try.prog 14 := canEnter_of Try.func14 (by kernel_rfl) (by kernel_rfl)
theorem canDRows : CanEnter Try.prog 17 := canEnter_of Try.func17 (by kernel_rfl) (by kernel_rfl)
/-- the document's sorter, in a struct's cells -/
def DocC (z : Int) (K : List K3) (LL : List (List V3)) (W : World) (X : Nat → Prop) (v : Value) : Prop := ∃ dk dl, v = .agg #[.int .i64 z, dk, dl] ∧ CVR W X (.vs (kc K)) dk ∧ CVR W X (.vs (rcL LL)) dl
theorem docC_iff {z : Int} {K : List K3} {LL : List (List V3)} {W : World} {X : Nat → Prop} {v : Value} : DVR W X (docD z K LL) v ↔ DocC z K LL W X v := by
  constructor
  · intro h
    simp only [DVR] at h
    obtain ⟨⟨a⟩, rfl, hc⟩ := h
    match a, hc with
    | [p, q, r], hc =>
      simp only [CVRs, and_true] at hc
      obtain ⟨h1, h2, h3⟩ := hc
      cases h1
      exact ⟨q, r, rfl, h2, h3⟩
    | [], h => simp [CVRs] at h
    | [_], h => simp [CVRs] at h
    | [_, _], h => simp [CVRs] at h
    | _ :: _ :: _ :: _ :: _, h => simp [CVRs] at h
  · rintro ⟨dk, dl, rfl, h1, h2⟩
    simp only [DVR]
    refine ⟨_, rfl, ?_⟩
    simp only [CVRs, and_true]
    exact ⟨.v _ rfl, h1, h2⟩
theorem docC_two {z e : Int} {K : List K3} {LL : List (List V3)} {W : World} {X : Nat → Prop} {v : Value} (h : DVR W X (.tup [docD z K LL, iD e]) v) : ∃ u, v = .tuple #[u, .int .i64 e] ∧ DocC z K LL W X u := by
  simp only [DVR] at h
  obtain ⟨⟨a⟩, rfl, hc⟩ := h
  match a, hc with
  | [p, q], hc =>
    simp only [DVRs, and_true] at hc
    obtain ⟨h1, h2⟩ := hc
    simp only [DVR] at h2
    cases h2
    exact ⟨p, rfl, docC_iff.1 h1⟩
  | [], h => simp [DVRs] at h
  | [_], h => simp [DVRs] at h
  | _ :: _ :: _ :: _, h => simp [DVRs] at h
section
variable {z : Int} {n : Nat} {K : List K3} {LL : List (List V3)} {W W' : World} {X : Nat → Prop}
theorem dNew_calls (hK : K.length ≤ Lim) (hX : ∀ b, X b → b < W.heap.size) {kv : Value} (ck : CVR W X (.vs (kc K)) kv) :
    Calls Try.prog 7 #[.int .i64 z, kv] W fun e w' => Below W.heap.size W w' ∧
      ((newE z K = 0 ∧ ∃ u, e = .returned (.tuple #[u, .int .i64 0]) ∧ DocC z K [] w' X u) ∨ (newE z K ≠ 0 ∧ ∃ u, e = .returned (.tuple #[u, .int .i64 (newE z K)]) ∧ DocC 0 [] [] w' X u)) := by
  have args : DVRs W X [iD z, .c (.vs (kc K))] [.int .i64 z, kv] := by
    simp only [DVRs, DVR, and_true]
    exact ⟨.v _ rfl, ck⟩
  by_cases h : newE z K = 0
  · refine Calls.mono (FnC.calls canDNew (c_dNew0 z K hK h) W X _ glo_none hX args) ?_
    rintro e w' ⟨v, rfl, hd, hB⟩
    obtain ⟨u, rfl, hu⟩ := docC_two hd
    exact ⟨hB, .inl ⟨h, u, rfl, hu⟩⟩
  · refine Calls.mono (FnC.calls canDNew (c_dNew1 z K hK h) W X _ glo_none hX args) ?_
    rintro e w' ⟨v, rfl, hd, hB⟩
    obtain ⟨u, rfl, hu⟩ := docC_two hd
    exact ⟨hB, .inr ⟨h, u, rfl, hu⟩⟩
theorem dAdd_calls (hl : LL.length < 65536) (hX : ∀ b, X b → b < W.heap.size) {u x : Value} (hu : DocC n K LL W X u) {L : List V3} (hx : CVR W X (.vs (vc L)) x) :
    Calls Try.prog 11 #[u, x] W fun e w' => ∃ u', e = .returned (.tuple #[u', .int .i64 0]) ∧ DocC n K (LL ++ [L]) w' X u' ∧ Below W.heap.size W w' := by
  refine Calls.mono (FnC.calls canDAdd (c_dAdd n K LL L hl) W X [u, x] glo_none hX (by simp only [DVRs, and_true]; exact ⟨docC_iff.2 hu, by simp only [DVR]; exact hx⟩)) ?_
  rintro e w' ⟨v, rfl, hd, hB⟩
  obtain ⟨u', rfl, hu'⟩ := docC_two hd
  exact ⟨u', rfl, hu', hB⟩
theorem dRuns_calls (hn : 1 ≤ n) (hn2 : n ≤ 65536) (hl : LL.length ≤ 65536) (hX : ∀ b, X b → b < W.heap.size) {u : Value} (hu : DocC n K LL W X u) :
    Calls Try.prog 14 #[u] W fun e w' => e = .returned (.int .i64 ((LL.length + n - 1) / n : Nat)) ∧ Below W.heap.size W w' := by
  refine Calls.mono (FnC.calls canDRuns (c_dRuns n hn hn2 K LL hl) W X [u] glo_none hX (by simp only [DVRs, and_true]; exact docC_iff.2 hu)) ?_
  rintro e w' ⟨v, rfl, hd, hB⟩
  simp only [DVR] at hd
  cases hd
  exact ⟨rfl, hB⟩
theorem dRows_calls (hK : K.length ≤ Lim) (hl : RowsOk LL) (hX : ∀ b, X b → b < W.heap.size) {u : Value} (hu : DocC n K LL W X u) :
    Calls Try.prog 17 #[u] W fun e w' => ∃ v, e = .returned v ∧ CVR w' (fun _ => False) (.vs (rcL (sortL K LL))) v ∧ Below W.heap.size W w' := by
  refine Calls.mono (FnC.calls canDRows (c_dRows n K hK LL hl) W X [u] glo_none hX (by simp only [DVRs, and_true]; exact docC_iff.2 hu)) ?_
  rintro e w' ⟨v, rfl, hd, hB⟩
  simp only [DVR] at hd
  exact ⟨v, rfl, hd.mono (fun _ h => h.elim), hB⟩
end
end Go.Proofs.Ytdgjcdhomfhfpaa
namespace Go.Proofs.Ytdgjcdhomfhfpaa
open Go.RowKit Go.IntWalk
set_option linter.unusedSimpArgs false
set_option linter.unusedVariables false

section
variable {K : List K3} {n : Nat} {P P' : Nat → Prop} {LL : List (List V3)} {w w' : World} {X X' : Nat → Prop} {sb : Nat} {at_ : Option (Nat × Nat)}
theorem RowG.imp {P P' : Nat → Prop} {L : List V3} {w : World} {r : Value} (h : RowG P L w r) (hP : ∀ b, P b → b < w.heap.size → P' b) : RowG P' L w r := by
  refine ⟨h.1, fun b o n c e => hP b (h.2 b o n c e) ?_⟩
  obtain ⟨hlen, ⟨rfl, h0⟩ | ⟨g, cap, cur, rfl, hlo, hg, _⟩⟩ := h.1
  · cases e
  · injection e with e
    injection e with e
    injection e with e
    subst e
    exact (Array.getElem?_eq_some_iff.1 hg).1
/-- what is said of where the rows lie, anew: they lie somewhere in the memory that is there -/
theorem SorP.where_ (h : SorP K n P LL w X sb at_) (hP : ∀ b, P b → b < w.heap.size → P' b) : SorP K n P' LL w X sb at_ := by
  refine ⟨h.lt, h.out, h.row, h.box, ?_⟩
  obtain ⟨h1, h2, h3⟩ := h.rows
  refine ⟨h1, fun el hel => rS_sz LL el hel, ?_⟩
  rcases h3 with ⟨e1, e2⟩ | ⟨b, cap, a, fr, e, g1, g2, g3, g4, g5⟩
  · refine .inl ⟨e1, ?_⟩
    have : (rS (RowG P) LL).length = 0 := by rw [e2]; rfl
    rw [rS_len] at this
    exact List.length_eq_zero_iff.1 (by rw [rS_len]; exact this)
  · refine .inr ⟨b, cap, a, fr, e, g1, g2, g3, by rw [rS_len] at g4 ⊢; exact g4, fun i el hi f cv hf => ?_⟩
    have hiM : i < LL.length := by
      have := (List.getElem?_eq_some_iff.1 hi).1
      rw [rS_len] at this
      exact this
    have hi0 : (rS (RowG P) LL)[i]? = some [.sem (RowG P (LL.getD i []))] := by simp [rS, hiM]
    have hi1 : (rS (RowG P') LL)[i]? = some [.sem (RowG P' (LL.getD i []))] := by simp [rS, hiM]
    rw [hi] at hi1
    have hel := Option.some.inj hi1
    subst hel
    have hf0 : f = 0 := by
      have := (List.getElem?_eq_some_iff.1 hf).1
      simp at this
      exact this
    subst hf0
    obtain ⟨r, hr, hc⟩ := g5 i _ hi0 0 _ rfl
    refine ⟨r, hr, ?_⟩
    have e4 : cv = .sem (RowG P' (LL.getD i [])) := by simpa using hf.symm
    subst e4
    cases hc with
    | sem _ _ ho hq =>
      have h0 := hq w (Nat.le_refl _) (fun _ _ _ => rfl)
      refine .sem _ _ ho (fun w2 hs ha => ⟨(hq w2 hs ha).1, fun b o m c e => ?_⟩)
      exact (h0.imp hP).2 b o m c e
/-- blocks that it does not lie in are out of its way -/
theorem SorP.away (h : SorP K n P LL w X sb at_) {B : Nat → Prop} (h1 : ¬ B sb) (h2 : ∀ b, AtB at_ b → ¬ B b) (hP : ∀ b, P b → ¬ B b)
    (hk : ∀ kv, w.cell? ⟨sb, 1, none⟩ = some kv → CVR w (OwnO B sb at_) (.vs (kc K)) kv) : SorP K n P LL w B sb at_ := by
  obtain ⟨kv, sv, fr, k1, k2, k3, k4⟩ := h.box
  refine ⟨h.lt, h1, fun b hb => ⟨(h.row b hb).1, h2 b hb, (h.row b hb).2.2⟩, ⟨kv, sv, fr, k1, k2, hk kv (by simp [World.cell?, k1]), k4⟩, ?_⟩
  obtain ⟨g1, g2, g3⟩ := h.rows
  refine ⟨g1, g2, g3.imp id ?_⟩
  rintro ⟨b, cap, a, fr', e, q1, q2, q3, q4, q5⟩
  refine ⟨b, cap, a, fr', e, q1, q2, q3, q4, fun i el hi f cv hf => ?_⟩
  have hiM : i < LL.length := by
    have := (List.getElem?_eq_some_iff.1 hi).1
    rw [rS_len] at this
    exact this
  have hi1 : (rS (RowG P) LL)[i]? = some [.sem (RowG P (LL.getD i []))] := by simp [rS, hiM]
  obtain ⟨r, hr, hc⟩ := q5 i el hi f cv hf
  rw [hi] at hi1
  have hel := Option.some.inj hi1
  subst hel
  have hf0 : f = 0 := by
    have := (List.getElem?_eq_some_iff.1 hf).1
    simp at this
    exact this
  subst hf0
  have e4 : cv = .sem (RowG P (LL.getD i [])) := by simpa using hf.symm
  subst e4
  refine ⟨r, hr, ?_⟩
  cases hc with
  | sem _ _ ho hq =>
    have h0 := hq w (Nat.le_refl _) (fun _ _ _ => rfl)
    refine .sem _ _ ho (fun w2 hs ha => ?_)
    obtain ⟨⟨r1, r2⟩, r3⟩ := h0
    refine ⟨⟨r1, r2.imp id ?_⟩, r3⟩
    rintro ⟨g, cap', cur, e', p1, p2, p3⟩
    refine ⟨g, cap', cur, e', p1, (ha g (fun hg => ?_) (Array.getElem?_eq_some_iff.1 p2).1).trans p2, p3⟩
    rcases hg with hg | hg | ⟨cc, hg⟩
    · exact hP g (r3 _ _ _ _ e') hg
    · subst hg
      rw [k1] at p2
      injection p2 with p2
      injection p2 with _ p2
      exact absurd p2 (by decide)
    · rw [e] at hg
      injection hg with hg
      injection hg with hg
      subst hg
      rw [q1] at p2
      injection p2 with p2
      injection p2 with _ p2
      exact absurd p2 (by decide)
end

/-- a sorter, and the document's in a variable bw, both of one's own, made since w; neither reads what lies in B -/
structure PlB (K : List K3) (n : Nat) (w : World) (sb bw : Nat) (B : Nat → Prop) (LL LD : List (List V3)) (W : World) (at_ : Option (Nat × Nat)) : Prop where
  gs : w.heap.size ≤ sb
  gw : w.heap.size ≤ bw
  ga : ∀ b, AtB at_ b → w.heap.size ≤ b
  hB : Below w.heap.size w W
  Bw : B bw
  Bl : ∀ b, B b → w.heap.size ≤ b ∧ b < W.heap.size
  S : SorP K n (fun b => ¬ B b) LL W B sb at_
  D : ∃ dk dl, W.heap[bw]? = some (.cells #[.int .i64 (n : Nat), dk, dl] 29 (0, 0)) ∧ CVR W (OwnO B sb at_) (.vs (kc K)) dk ∧ CVR W (OwnO B sb at_) (.vs (rcL LD)) dl
section
variable {K : List K3} {n : Nat} {w : World} {sb bw : Nat} {B B' : Nat → Prop} {LL LD : List (List V3)} {W W' : World} {at_ : Option (Nat × Nat)}
theorem PlB.start {w1 w2 : World} {dk dl : Value} (hS : SorP K n (fun _ => True) [] w1 (fun _ => False) sb none) (hs : w.heap.size ≤ sb) (hB1 : Below w.heap.size w w1) (hB2 : Below w1.heap.size w1 w2)
    (hk : CVR w2 (OwnO (fun _ => False) sb none) (.vs (kc K)) dk) (hl : CVR w2 (OwnO (fun _ => False) sb none) (.vs (rcL [])) dl) :
    PlB K n w sb w2.heap.size (fun b => b = w2.heap.size) [] [] (w2.alloc (.cells #[.int .i64 (n : Nat), dk, dl] 29)) none := by
  have h1 := hB1.size
  have h2 := hB2.size
  have st : Stays (OwnO (fun _ => False) sb none) (OwnO (fun b => b = w2.heap.size) sb none) w2 (w2.alloc (.cells #[.int .i64 (n : Nat), dk, dl] 29)) :=
    ⟨fun b _ hlt => Below.heap_alloc _ _ _ hlt, fun b hb => by
      rcases hb with rfl | hb
      · exact .inr (Nat.le_refl _)
      · exact .inl (.inr hb), by simp⟩
  refine ⟨hs, by omega, fun b ⟨_, hb⟩ => (by cases hb), (hB1.trans (hB2.mono h1)).alloc (by omega) _, rfl, fun b hb => by simp; omega, ?_, dk, dl, World.alloc_heap_new _ _, hk.step st, hl.step st⟩
  refine (hS.where_ (P' := fun b => ¬ b = w2.heap.size) (fun b _ hlt => by omega)).step (fun b _ hlt => (Below.heap_alloc _ _ _ (by omega)).trans (hB2.block b hlt)) (fun b hb => .inr (by omega)) (by simp; omega)
theorem PlB.below (h : PlB K n w sb bw B LL LD W at_) (hB : Below W.heap.size W W') : PlB K n w sb bw B LL LD W' at_ := by
  obtain ⟨dk, dl, h1, h2, h3⟩ := h.D
  have st : Stays (OwnO B sb at_) (OwnO B sb at_) W W' := ⟨fun b _ hlt => hB.block b hlt, fun b hb => .inl hb, hB.size⟩
  exact ⟨h.gs, h.gw, h.ga, h.hB.trans (hB.mono h.hB.size), h.Bw, fun b hb => ⟨(h.Bl b hb).1, Nat.lt_of_lt_of_le (h.Bl b hb).2 hB.size⟩,
    h.S.step (fun b _ hlt => hB.block b hlt) (fun b hb => .inl hb) hB.size, dk, dl, (hB.block _ (h.Bl _ h.Bw).2).trans h1, h2.step st, h3.step st⟩
/-- less is out of the way -/
theorem PlB.back (h : PlB K n w sb bw B LL LD W at_) (hw : B' bw) (hs : ∀ b, B' b → B b) : PlB K n w sb bw B' LL LD W at_ := by
  obtain ⟨dk, dl, h1, h2, h3⟩ := h.D
  have less : ∀ b, OwnO B' sb at_ b → OwnO B sb at_ b := fun b hb => hb.imp (hs b) id
  exact ⟨h.gs, h.gw, h.ga, h.hB, hw, fun b hb => h.Bl b (hs b hb), (h.S.where_ (P' := fun b => ¬ B' b) (fun b hb _ h' => hb (hs b h'))).step (fun _ _ _ => rfl) (fun b hb => .inl (hs b hb)) (Nat.le_refl _), dk, dl, h1, h2.mono less, h3.mono less⟩
/-- what lies in B, the variable apart, is written -/
theorem PlB.wrote (h : PlB K n w sb bw B LL LD W at_) (hos : W'.os = W.os) (ht : W'.tape = W.tape) (ho : W'.output = W.output) (hz : W'.heap.size = W.heap.size) (hs : ∀ b, (B b → b = bw) → W'.heap[b]? = W.heap[b]?) : PlB K n w sb bw B LL LD W' at_ := by
  obtain ⟨dk, dl, h1, h2, h3⟩ := h.D
  have st : Stays (OwnO B sb at_) (OwnO B sb at_) W W' := ⟨fun b hb _ => hs b (fun h => absurd (.inl h) hb), fun b hb => .inl hb, by omega⟩
  refine ⟨h.gs, h.gw, h.ga, ⟨hos.trans h.hB.os, ht.trans h.hB.tape, ho.trans h.hB.output, by rw [hz]; exact h.hB.size, fun b hb => (hs b (fun hb' => ?_)).trans (h.hB.block b hb)⟩, h.Bw, fun b hb => by rw [hz]; exact h.Bl b hb,
    h.S.step (fun b hb _ => hs b (fun h => absurd h hb)) (fun b hb => .inl hb) (by omega), dk, dl, (hs _ (fun _ => rfl)).trans h1, h2.step st, h3.step st⟩
  have := (h.Bl b hb').1
  omega
/-- the document's sorter is put anew into its variable -/
theorem PlB.put {LD' : List (List V3)} {dk dl : Value} (h : PlB K n w sb bw B LL LD W at_) (hos : W'.os = W.os) (ht : W'.tape = W.tape) (ho : W'.output = W.output) (hz : W'.heap.size = W.heap.size) (hs : ∀ b, b ≠ bw → W'.heap[b]? = W.heap[b]?)
    (hb : W'.heap[bw]? = some (.cells #[.int .i64 (n : Nat), dk, dl] 29 (0, 0))) (hk : CVR W (OwnO B sb at_) (.vs (kc K)) dk) (hl : CVR W (OwnO B sb at_) (.vs (rcL LD')) dl) : PlB K n w sb bw B LL LD' W' at_ := by
  have st : Stays (OwnO B sb at_) (OwnO B sb at_) W W' := ⟨fun b hb _ => hs b (fun e => hb (.inl (e ▸ h.Bw))), fun b hb => .inl hb, by omega⟩
  refine ⟨h.gs, h.gw, h.ga, ⟨hos.trans h.hB.os, ht.trans h.hB.tape, ho.trans h.hB.output, by rw [hz]; exact h.hB.size, fun b hb => (hs b (fun e => ?_)).trans (h.hB.block b hb)⟩, h.Bw, fun b hb => by rw [hz]; exact h.Bl b hb,
    h.S.step (fun b hb _ => hs b (fun e => hb (e ▸ h.Bw))) (fun b hb => .inl hb) (by omega), dk, dl, hb, hk.step st, hl.step st⟩
  have := h.gw
  omega
/-- a row is handed in: it lies in blocks that are new since W, and these are out of the way from then on -/
theorem PlB.add (h : PlB K n w sb bw B LL LD W at_) (hB : Below W.heap.size W W') (hl : LL.length < 65536) {L : List V3} (hL : L.length ≤ 1048576) {x : Value} (hx : CVR W' (OwnO B sb at_) (.sem (RowQ W'.heap.size L)) x) :
    Calls Try.prog 10 #[.pointer (some ⟨sb, 0, none⟩), x] W' fun e w' => e = .returned (.int .i64 0) ∧ ∃ at',
      PlB K n w sb bw (fun b => B b ∨ (W.heap.size ≤ b ∧ b < W'.heap.size)) (LL ++ [L]) LD w' at' ∧ W'.heap.size ≤ w'.heap.size ∧ ∀ b, W.heap.size ≤ b → b < W'.heap.size → w'.heap[b]? = W'.heap[b]? := by
  have hz := hB.size
  have hz0 := h.hB.size
  obtain ⟨dk, dl, h1, h2, h3⟩ := h.D
  obtain ⟨kv, sv, fr, k1, k2, k3, k4⟩ := h.S.box
  -- what the sorter reads lies below W
  have S1 : SorP K n (fun b => ¬ B b ∧ (b < W.heap.size ∨ W'.heap.size ≤ b)) LL W' B sb at_ := (h.S.where_ (P' := fun b => ¬ B b ∧ (b < W.heap.size ∨ W'.heap.size ≤ b)) (fun b hb hlt => ⟨hb, .inl hlt⟩)).step (fun b _ hlt => hB.block b hlt) (fun b hb => .inl hb) hz
  have hown : ∀ b, OwnO (fun b => B b ∨ (W.heap.size ≤ b ∧ b < W'.heap.size)) sb at_ b → OwnO B sb at_ b ∨ W.heap.size ≤ b := fun b hb => by
    rcases hb with (hb | hb) | hb
    · exact .inl (.inl hb)
    · exact .inr hb.1
    · exact .inl (.inr hb)
  have st1 : Stays (OwnO B sb at_) (OwnO (fun b => B b ∨ (W.heap.size ≤ b ∧ b < W'.heap.size)) sb at_) W W' := ⟨fun b _ hlt => hB.block b hlt, hown, hz⟩
  have kv1 := k3.step st1
  have dk1 := h2.step st1
  have dl1 := h3.step st1
  refine Calls.mono (S1.add (fun b hb => Nat.lt_of_lt_of_le (h.Bl b hb).2 hz) hl (lo := W'.heap.size) (fun b hb => ⟨fun hBb => ?_, .inr hb⟩) hL hx) ?_
  · have := (h.Bl b hBb).2
    omega
  rintro e w2 ⟨he, at', ht⟩
  have ha' : ∀ b, AtB at' b → ¬ (B b ∨ (W.heap.size ≤ b ∧ b < W'.heap.size)) ∧ b ≠ sb := fun b hb => by
    have h5 := ht.sor.row b hb
    refine ⟨fun hb2 => ?_, h5.2.2⟩
    rcases hb2 with hb2 | hb2
    · exact h5.2.1 hb2
    · rcases ht.own b hb with h6 | h6
      · have := (h.S.row b h6).1; omega
      · omega
  have st2 : Stays (OwnO (fun b => B b ∨ (W.heap.size ≤ b ∧ b < W'.heap.size)) sb at_) (OwnO (fun b => B b ∨ (W.heap.size ≤ b ∧ b < W'.heap.size)) sb at') W' w2 :=
    ⟨fun b hb hlt => ht.turn.heap b hlt (fun e => hb (.inr (.inl e))) (fun e => hb (.inr (.inr e))), fun b hb => by
      rcases hb with hb | hb | hb
      · exact .inl (.inl hb)
      · exact .inl (.inr (.inl hb))
      · rcases ht.own b hb with h1 | h1
        · exact .inl (.inr (.inr h1))
        · exact .inr h1, ht.turn.size⟩
  have hsl := h.S.lt
  have hzt := ht.turn.size
  have hk : ∀ kv', w2.cell? ⟨sb, 1, none⟩ = some kv' → kv' = kv := fun kv' hkv => by
    rw [ht.keys, hB.cell (p := ⟨sb, 1, none⟩) hsl] at hkv
    simp only [World.cell?, k1] at hkv
    exact (by simpa using hkv.symm)
  refine ⟨he, at', ⟨h.gs, h.gw, fun b hb => ?_, ht.turn.below (h.hB.trans (hB.mono hz0)) (by omega) h.gs h.ga, .inl h.Bw, fun b hb => ?_, ?_, dk, dl, ?_, dk1.step st2, dl1.step st2⟩, hzt, fun b hb1 hb2 => ?_⟩
  · rcases ht.own b hb with h6 | h6
    · exact h.ga b h6
    · omega
  · rcases hb with hb | hb
    · have := h.Bl b hb; omega
    · omega
  · refine (ht.sor.away (B := fun b => B b ∨ (W.heap.size ≤ b ∧ b < W'.heap.size)) (fun hb => ?_) (fun b hb => (ha' b hb).1) (fun b hb hb2 => ?_) (fun kv' hkv => by rw [hk kv' hkv]; exact kv1.step st2)).where_ (fun b hb _ hb2 => ?_)
    · rcases hb with hb | hb
      · exact h.S.out hb
      · omega
    all_goals
      rcases hb2 with hb2 | hb2
      · exact hb.1 hb2
      · rcases hb.2 with h6 | h6 <;> omega
  · have hbl := h.Bl _ h.Bw
    refine (ht.turn.heap bw (by omega) (fun e => h.S.out (e ▸ h.Bw)) (fun hb => (h.S.row bw hb).2.1 h.Bw)).trans ((hB.block _ hbl.2).trans h1)
  · refine ht.turn.heap b hb2 (by omega) (fun hb => ?_)
    have := (h.S.row b hb).1
    omega
theorem PlB.doc (h : PlB K n w sb bw B LL LD W at_) : ∃ dk dl, W.heap[bw]? = some (.cells #[.int .i64 (n : Nat), dk, dl] 29 (0, 0)) ∧ DocC n K LD W (OwnO B sb at_) (.agg #[.int .i64 (n : Nat), dk, dl]) := by
  obtain ⟨dk, dl, h1, h2, h3⟩ := h.D
  exact ⟨dk, dl, h1, dk, dl, rfl, h2, h3⟩
theorem PlB.own_lt (h : PlB K n w sb bw B LL LD W at_) : ∀ b, OwnO B sb at_ b → b < W.heap.size := fun b hb => by
  rcases hb with hb | rfl | hb
  · exact (h.Bl b hb).2
  · exact h.S.lt
  · exact (h.S.row b hb).1
theorem PlB.sortN (h : PlB K n w sb bw B LL LD W at_) (h1 : 1 ≤ n) (h2 : n ≤ 65536) : SortN K LL n (fun _ => False) W (.pointer (some ⟨sb, 0, none⟩)) := .inr ⟨sb, rfl, h.S.lt, h.S.sortR h1 h2⟩
end
end Go.Proofs.Ytdgjcdhomfhfpaa
namespace Go.Proofs.Ytdgjcdhomfhfpaa
open Go.RowKit Go.IntWalk Go.Lib
set_option linter.unusedSimpArgs false
set_option linter.unusedVariables false

set_option maxRecDepth 100000 in
/-- append to a row of one's own without values: a copy -/
theorem wpList_append_copy {ops : Array Oper} {rest : List Oper} {o : Oper} {a : Act} {Q : Exit → Act → World → Prop} {w : World} (hgd : o.guard = none) (s x : Operand)
    (ho : o.op = .call { callee := .builtin .append, args := #[s, x], argTypes := #[34, 34] }) (base : Nat) (ao : Option Addr) (ca : Nat) (hs : a.eval s = .slice ao 0 ca) (hown : w.ownsRow base 38 3 (.slice ao 0 ca) 0 [])
    {L : List V3} (hL : L.length ≤ 1048576) {xv : Value} (hx : a.eval x = xv) {X : Nat → Prop} (hc : CVR w X (.vs (vc L)) xv) (hbase : base ≤ w.heap.size)
    (h : ∀ v' w', RowAt base L w' v' → w.grownBy w' (Value.slice ao 0 ca).ownBlock → wpList Try.prog ops Q rest (a.put o.dst v') w') : wpList Try.prog ops Q (o :: rest) a w := by
  have t22 := Try.underlying34
  obtain ⟨i0, hi, hz0, hz1, hz2⟩ := info_parts iVal
  have hmax : maxLen = 9223372036854775807 := by decide +kernel
  have some_ : ∀ (ad : Addr) (n c : Nat) (news : List Value), xv = .slice (some ad) n c → n = L.length → news = cellsL L → (∀ j u, news[j]? = some u → w.cell? (ad.add j) = some u) → (∀ u ∈ news, u.oneCell' = true) → wpList Try.prog ops Q (o :: rest) a w := by
    rintro ad n c news rfl rfl rfl h1 h2
    refine wpList_append_own w hgd s x 34 ho base 38 i0 zVal 3 32 t22 hi hz0 hz1 hz2 rfl (by decide) _ 0 [] hs hown ad L.length c (cellsL L) hx (cellsL_len L) h1 h2 (by omega) (by omega) hbase fun v' w' g1 g2 _ => h v' w' ?_ g2
    simpa [RowAt] using g1
  rcases CVR_inv hc with ⟨hnil, ad, rfl⟩ | ⟨b, off, sz, c, g, rfl, hsz, hcap, hcell, hval⟩
  · have h0 : L = [] := by
      have := vc_len L
      rw [hnil] at this
      exact List.length_eq_zero_iff.1 this.symm
    subst h0
    cases ad with
    | some ad => exact some_ ad 0 0 [] rfl rfl rfl (fun j u hj => by simp at hj) (fun u hu => by simp at hu)
    | none =>
      refine wpList_plain hgd fun K hK => ?_
      have hrun : (Builtin.append_ #[34, 34] o.type #[.slice ao 0 ca, .slice none 0 0]).run Try.prog w = .ok (.slice ao 0 ca) w := by
        cases ao <;> simp [Builtin.append_, Builtin.lenOf, Builtin.firstCells, run_underlying t22, sizeOf, typeInfo, hi, storeCells]
      unfold Oper.wp execOp
      simp only [ho, resolve, invoke, builtin, Sem.run_bind, Sem.run_pure, Result.andThen_ok, List.map_toArray, List.map_cons, List.map_nil, hs, hx, hrun]
      exact hK _ _ (h _ _ hown (World.grownBy.refl _ _))
  · have hk := cells_of_cv hsz hcell hval
    refine some_ ⟨b, off, none⟩ _ c _ rfl (vc_len L) rfl (fun j u hj => ?_) (cellsL_one L)
    rw [Addr.add_lit]
    exact (hk j u hj).2
theorem RowAt.form {lo : Nat} {L : List V3} {w : World} {r : Value} (h : RowAt lo L w r) : ∃ a c, r = .slice a L.length c := by
  obtain ⟨hlen, ⟨rfl, h0⟩ | ⟨g, cap, cur, rfl, _⟩⟩ := h
  · exact ⟨none, 0, by rw [h0]⟩
  · exact ⟨_, _, rfl⟩
theorem RowAt.hand {lo : Nat} {L : List V3} {w : World} {r : Value} {X : Nat → Prop} (h : RowAt lo L w r) (hX : ∀ b, X b → b < lo) : CVR w X (.sem (RowQ w.heap.size L)) r :=
  .sem _ r h.one fun w2 hs ha => ⟨(h.keep fun b h1 h2 => ha b (fun hb => by have := hX b hb; omega) h2).read, hs⟩
theorem RowAt.lies {lo : Nat} {L : List V3} {w : World} {r : Value} (h : RowAt lo L w r) : ∀ a n c, r = .slice (some a) n c → lo ≤ a.block ∧ a.block < w.heap.size := by
  obtain ⟨hlen, ⟨rfl, h0⟩ | ⟨g, cap, cur, rfl, hlo, hg, _⟩⟩ := h
  · rintro a n c e; cases e
  · rintro a n c e
    injection e with e
    injection e with e
    subst e
    exact ⟨hlo, (Array.getElem?_eq_some_iff.1 hg).1⟩
/- regions that draw their order and hold stores -/
theorem oper_skip {P : Program} {F : Fence} {n : Nat} {Q : Exit → Act → World → Prop} {o : Oper} {a : Act} {w w' : World} {K : Act → World → Prop} (hF : ∀ f, F.fn f) (hdn : o.dst = none) (hnd : ∀ c, o.op ≠ .defer c) (h : (execOp a.eval o).run P w = .ok .skip w') (hk : K a w') : o.wpIn F n P a w K Q := by
  refine ⟨fun f _ => hF f, ?_⟩
  rw [Oper.semAt_plain F _ _ hnd, h]
  show K (a.put o.dst undef) w'
  rw [hdn]
  exact hk
theorem regionIn_valsS {P : Program} {F : Fence} {n : Nat} {ops : Array Oper} {Q : Exit → Act → World → Prop} {ρ : Type} {id : Nat} {a0 : Act} {w : World} (hm : P.follows .mixedOrders = true) (hF : ∀ f, F.fn f) (hd : F.depth = none) (hC : ∀ f args w R, Calls P f args w R → CallsIn F (n - 1) P f args w R) (hB : goodR ops = true)
    (V : ρ → Nat → Value) (Ph : ρ → (Nat → Bool) → World → Prop) (r0 : ρ) (h0 : Ph r0 (fun _ => false) w.drew)
    (hstep : ∀ (D : Nat → Bool) (i : Nat) (o : Oper) (r : ρ) (a : Act) (w : World), ops[i]? = some o → D i = false → ClosedD ops D → (∀ e ∈ o.after, binds1 e = true → D e.on = true) → AgreeR ops (V r) a0 D a → Ph r D w → StepR P V Ph D i o r a w ∨
      ∃ w', o.dst = none ∧ (∀ c, o.op ≠ .defer c) ∧ (execOp a.eval o).run P w = .ok .skip w' ∧ Ph r (stepL D i) w')
    (hdone : ∀ (D : Nat → Bool) (r : ρ) (a : Act) (w : World), (∀ i, i < ops.size → D i = true) → AgreeR ops (V r) a0 D a → Ph r D w → Q .normal a w) : (Code.region id ops true).wpIn F n P Q a0 w := by
  refine regionIn_inv hm (fun D a w => ∃ r, AgreeR ops (V r) a0 D a ∧ Ph r D w) ⟨r0, .start, h0⟩ hB ?_ ?_
  · rintro D i o a w ho hDi hcl hdep ⟨r, hA, hP⟩
    rcases hstep D i o r a w ho hDi hcl hdep hA hP with (⟨r', w', hnd, hx, hs, hP'⟩ | ⟨f, args, hnd, hx, hc⟩) | ⟨w', hdn, hnd, hx, hP'⟩
    · exact oper_value hF hnd hx ⟨r', hA.put (goodR.apart hB) ho rfl hs, hP'⟩
    · refine oper_call hF hd hnd hx (hC _ _ _ _ (hc.mono ?_))
      rintro e w' ⟨r', rfl, hs, hP'⟩
      exact ⟨_, rfl, r', hA.put (goodR.apart hB) ho rfl hs, hP'⟩
    · have hp := hA.put (goodR.apart hB) ho (v := V r i) rfl (fun _ _ => rfl)
      rw [hdn] at hp
      exact oper_skip hF hdn hnd hx ⟨r, hp, hP'⟩
  · rintro D a w hall ⟨r, hA, hP⟩
    exact hdone D r a w hall hA hP
/-- between the operations that hand a row to the document's sorter: is the call done, is the answer put into the variable -/
def DocPh (K : List K3) (n : Nat) (w : World) (sb bw : Nat) (B : Nat → Prop) (LL LD LN : List (List V3)) (ta : Option (Nat × Nat)) (lo : Nat) (L : List V3) (v : Value) (W2 : World) (r : Value) : Bool → Bool → World → Prop
  | false, false, W => PlB K n w sb bw B LL LD W ta ∧ RowAt lo L W v ∧ Below W2.heap.size W2 W
  | true, false, W => PlB K n w sb bw B LL LD W ta ∧ RowAt lo L W v ∧ DocC n K LN W (OwnO B sb ta) r
  | true, true, W => PlB K n w sb bw B LL LN W ta ∧ RowAt lo L W v
  | false, true, _ => False
section
variable {K : List K3} {n : Nat} {w : World} {sb bw : Nat} {B : Nat → Prop} {LL LD LN : List (List V3)} {ta : Option (Nat × Nat)} {lo : Nat} {L : List V3} {v : Value} {W2 : World} {r : Value}
theorem DocPh.hB {d e : Bool} {W : World} (h : DocPh K n w sb bw B LL LD LN ta lo L v W2 r d e W) : Below w.heap.size w W := by
  cases d <;> cases e
  · exact h.1.hB
  · exact h.elim
  · exact h.1.hB
  · exact h.1.hB
theorem DocPh.start (h : PlB K n w sb bw B LL LD W2 ta) (hr : RowAt lo L W2 v) : DocPh K n w sb bw B LL LD LN ta lo L v W2 r false false W2.drew :=
  ⟨h.below (Below.refl _ _).drew, hr.keep (fun _ _ _ => rfl), (Below.refl _ _).drew⟩
end
theorem DocC.below {z : Int} {K : List K3} {LL : List (List V3)} {W W' : World} {X : Nat → Prop} {v : Value} (h : DocC z K LL W X v) (hB : Below W.heap.size W W') : DocC z K LL W' X v := by
  obtain ⟨dk, dl, rfl, h1, h2⟩ := h
  have st : Stays X X W W' := ⟨fun b _ hlt => hB.block b hlt, fun b hb => .inl hb, hB.size⟩
  exact ⟨dk, dl, rfl, h1.step st, h2.step st⟩
theorem PlB.arg {K : List K3} {n : Nat} {w : World} {sb bw : Nat} {B : Nat → Prop} {LL LD : List (List V3)} {W : World} {at_ : Option (Nat × Nat)} (h : PlB K n w sb bw B LL LD W at_) {c : CV} {x : Value} (hx : CVR w (fun _ => False) c x) : CVR W (OwnO B sb at_) c x :=
  hx.step ⟨fun b _ hlt => h.hB.block b hlt, fun b hb => .inr (by
    rcases hb with hb | rfl | hb
    · exact (h.Bl b hb).1
    · exact h.gs
    · exact h.ga b hb), h.hB.size⟩
/- three cells, written -/
theorem heap_three {w : World} {g : Nat} {x0 x1 x2 : Value} {t : TypeId} (hg : w.heap[g]? = some (.cells #[x0, x1, x2] t (0, 0))) (v0 v1 v2 : Value) :
    (((w.setCell ⟨g, 0, none⟩ v0).setCell ⟨g, 1, none⟩ v1).setCell ⟨g, 2, none⟩ v2).heap[g]? = some (.cells #[v0, v1, v2] t (0, 0)) := by
  have h1 := Go.heap_setCell_same w g 0 _ t v0 hg
  have h2 := Go.heap_setCell_same _ g 1 _ t v1 h1
  have h3 := Go.heap_setCell_same _ g 2 _ t v2 h2
  simpa using h3
theorem heap_three_other {w : World} {g b : Nat} (h : b ≠ g) (v0 v1 v2 : Value) (o0 o1 o2 : Nat) : (((w.setCell ⟨g, o0, none⟩ v0).setCell ⟨g, o1, none⟩ v1).setCell ⟨g, o2, none⟩ v2).heap[b]? = w.heap[b]? :=
  (Below.heap_setCell _ _ _ _ h).trans ((Below.heap_setCell _ _ _ _ h).trans (Below.heap_setCell _ _ _ _ h))
/-- a row of n values that may be written -/
def TRow3 (lo n : Nat) (w : World) (r : Value) : Prop :=
  (n = 0 ∧ ∃ a c, r = .slice a 0 c) ∨ ∃ g cap, r = .slice (some ⟨g, 0, none⟩) n cap ∧ lo ≤ g ∧ g < w.heap.size ∧ (∀ o, w.frozen? ⟨g, o, none⟩ = false) ∧
    ∀ i, i < n → (∃ z, w.cell? ⟨g, i * 3, none⟩ = some (.int .i64 z)) ∧ (∃ z, w.cell? ⟨g, i * 3 + 1, none⟩ = some (.int .i64 z)) ∧ ∃ s, w.cell? ⟨g, i * 3 + 2, none⟩ = some (.string s)
theorem RowAt.typed3 {lo : Nat} {L : List V3} {w : World} {r : Value} (h : RowAt lo L w r) : TRow3 lo L.length w r := by
  obtain ⟨hlen, ⟨rfl, h0⟩ | ⟨g, cap, cur, rfl, hlo, hg, hcap, hmax, hsz, htake⟩⟩ := h
  · exact .inl ⟨h0, none, 0, rfl⟩
  · refine .inr ⟨g, cap, rfl, hlo, (Array.getElem?_eq_some_iff.1 hg).1, fun o => by simp [World.frozen?, hg], fun i hi => ?_⟩
    have hc : ∀ j u, (cellsL L)[j]? = some u → w.cell? ⟨g, j, none⟩ = some u := fun j u hj => by
      rw [cell_of_row w g _ cur _ (0, 0) hg]
      rw [← htake, List.getElem?_take] at hj
      split at hj
      · simpa using hj
      · cases hj
    have hL : L[i]? = some L[i] := List.getElem?_eq_getElem hi
    refine ⟨⟨L[i].1, hc _ _ ?_⟩, ⟨L[i].2.1, hc _ _ ?_⟩, ⟨bs L[i].2.2, hc _ _ ?_⟩⟩
    · rw [cellsL_get, show i * 3 / 3 = i by omega, hL, show i * 3 % 3 = 0 by omega]; rfl
    · rw [cellsL_get, show (i * 3 + 1) / 3 = i by omega, hL, show (i * 3 + 1) % 3 = 1 by omega]; rfl
    · rw [cellsL_get, show (i * 3 + 2) / 3 = i by omega, hL, show (i * 3 + 2) % 3 = 2 by omega]; rfl
/-- cells of values of one kind stay of that kind -/
theorem cell_kind {w : World} {g o : Nat} {i0 i1 j0 j1 : Int} {s0 s1 : ByteArray} (h0 : w.cell? ⟨g, o, none⟩ = some (.int .i64 i0)) (h1 : w.cell? ⟨g, o + 1, none⟩ = some (.int .i64 i1)) (h2 : w.cell? ⟨g, o + 2, none⟩ = some (.string s0)) (q : Addr) :
    let w' := ((w.setCell ⟨g, o, none⟩ (.int .i64 j0)).setCell ⟨g, o + 1, none⟩ (.int .i64 j1)).setCell ⟨g, o + 2, none⟩ (.string s1)
    w'.cell? q = w.cell? q ∨ (∃ z z', w.cell? q = some (.int .i64 z) ∧ w'.cell? q = some (.int .i64 z')) ∨ ∃ z z', w.cell? q = some (.string z) ∧ w'.cell? q = some (.string z') := by
  intro w'
  have n01 : (⟨g, o, none⟩ : Addr) ≠ ⟨g, o + 1, none⟩ := fun e => by injection e with _ e; omega
  have n02 : (⟨g, o, none⟩ : Addr) ≠ ⟨g, o + 2, none⟩ := fun e => by injection e with _ e; omega
  have n12 : (⟨g, o + 1, none⟩ : Addr) ≠ ⟨g, o + 2, none⟩ := fun e => by injection e with _ e; omega
  have a1 : (w.setCell ⟨g, o, none⟩ (.int .i64 j0)).cell? ⟨g, o + 1, none⟩ = some (.int .i64 i1) := by rw [World.cell?_setCell_other _ _ _ _ n01]; exact h1
  have a2 : ((w.setCell ⟨g, o, none⟩ (.int .i64 j0)).setCell ⟨g, o + 1, none⟩ (.int .i64 j1)).cell? ⟨g, o + 2, none⟩ = some (.string s0) := by
    rw [World.cell?_setCell_other _ _ _ _ n12, World.cell?_setCell_other _ _ _ _ n02]; exact h2
  by_cases e2 : (⟨g, o + 2, none⟩ : Addr) = q
  · subst e2
    exact .inr (.inr ⟨s0, s1, h2, World.cell?_setCell_same _ _ _ a2⟩)
  by_cases e1 : (⟨g, o + 1, none⟩ : Addr) = q
  · subst e1
    exact .inr (.inl ⟨i1, j1, h1, (World.cell?_setCell_other _ _ _ _ e2).trans (World.cell?_setCell_same _ _ _ a1)⟩)
  by_cases e0 : (⟨g, o, none⟩ : Addr) = q
  · subst e0
    exact .inr (.inl ⟨i0, j0, h0, (World.cell?_setCell_other _ _ _ _ e2).trans ((World.cell?_setCell_other _ _ _ _ e1).trans (World.cell?_setCell_same _ _ _ h0))⟩)
  · exact .inl ((World.cell?_setCell_other _ _ _ _ e2).trans ((World.cell?_setCell_other _ _ _ _ e1).trans (World.cell?_setCell_other _ _ _ _ e0)))
theorem TRow3.set {lo n : Nat} {w : World} {r : Value} (h : TRow3 lo n w r) {g o : Nat} {i0 i1 j0 j1 : Int} {s0 s1 : ByteArray} (h0 : w.cell? ⟨g, o, none⟩ = some (.int .i64 i0)) (h1 : w.cell? ⟨g, o + 1, none⟩ = some (.int .i64 i1)) (h2 : w.cell? ⟨g, o + 2, none⟩ = some (.string s0)) :
    TRow3 lo n (((w.setCell ⟨g, o, none⟩ (.int .i64 j0)).setCell ⟨g, o + 1, none⟩ (.int .i64 j1)).setCell ⟨g, o + 2, none⟩ (.string s1)) r := by
  rcases h with h | ⟨b, cap, e, hlo, hlt, hf, hc⟩
  · exact .inl h
  · refine .inr ⟨b, cap, e, hlo, by simpa using hlt, fun o => by rw [World.frozen?_setCell, World.frozen?_setCell, World.frozen?_setCell]; exact hf o, fun i hi => ?_⟩
    obtain ⟨⟨z0, k0⟩, ⟨z1, k1⟩, z2, k2⟩ := hc i hi
    have key := cell_kind (j0 := j0) (j1 := j1) (s1 := s1) h0 h1 h2
    refine ⟨?_, ?_, ?_⟩
    · rcases key ⟨b, i * 3, none⟩ with e | ⟨_, z', _, e⟩ | ⟨_, z', e, _⟩
      · exact ⟨z0, e.trans k0⟩
      · exact ⟨z', e⟩
      · rw [k0] at e; cases e
    · rcases key ⟨b, i * 3 + 1, none⟩ with e | ⟨_, z', _, e⟩ | ⟨_, z', e, _⟩
      · exact ⟨z1, e.trans k1⟩
      · exact ⟨z', e⟩
      · rw [k1] at e; cases e
    · rcases key ⟨b, i * 3 + 2, none⟩ with e | ⟨_, z', e, _⟩ | ⟨_, z', _, e⟩
      · exact ⟨z2, e.trans k2⟩
      · rw [k2] at e; cases e
      · exact ⟨z', e⟩
theorem TRow3.at {lo k : Nat} {w : World} {a : Option Addr} {n c : Nat} (h : TRow3 lo k w (.slice a n c)) {J : Nat} (hJ : J < k) :
    ∃ g z0 z1 s, a = some ⟨g, 0, none⟩ ∧ n = k ∧ lo ≤ g ∧ g < w.heap.size ∧ w.cell? ⟨g, J * 3, none⟩ = some (.int .i64 z0) ∧ w.cell? ⟨g, J * 3 + 1, none⟩ = some (.int .i64 z1) ∧ w.cell? ⟨g, J * 3 + 2, none⟩ = some (.string s) ∧ ∀ o, w.frozen? ⟨g, o, none⟩ = false := by
  rcases h with ⟨h0, _⟩ | ⟨g, cap, e, hlo, hlt, hf, hc⟩
  · omega
  · simp only [Value.slice.injEq] at e
    obtain ⟨⟨z0, h1⟩, ⟨z1, h2⟩, s, h3⟩ := hc J hJ
    exact ⟨g, z0, z1, s, e.1, e.2.1, hlo, hlt, h1, h2, h3, hf⟩
theorem TRow3.len {lo k : Nat} {w : World} {a : Option Addr} {n c : Nat} (h : TRow3 lo k w (.slice a n c)) : n = k := by
  rcases h with ⟨h0, a', c', e⟩ | ⟨g, cap, e, _⟩
  · simp only [Value.slice.injEq] at e
    omega
  · simp only [Value.slice.injEq] at e
    exact e.2.1
/-- rows of so many values -/
def TRows3 (lo : Nat) (ns : List Nat) (w : World) (r : Value) : Prop :=
  (ns = [] ∧ ∃ a : Option Addr, r = .slice a 0 0) ∨ ∃ b o cap, r = .slice (some ⟨b, o, none⟩) ns.length cap ∧ ∀ i n, ns[i]? = some n → ∃ a m c, w.cell? ⟨b, o + i, none⟩ = some (.slice a m c) ∧ TRow3 lo n w (.slice a m c)
theorem TRows3.set {lo : Nat} {ns : List Nat} {w : World} {r : Value} (h : TRows3 lo ns w r) {g o : Nat} {i0 i1 j0 j1 : Int} {s0 s1 : ByteArray} (h0 : w.cell? ⟨g, o, none⟩ = some (.int .i64 i0)) (h1 : w.cell? ⟨g, o + 1, none⟩ = some (.int .i64 i1)) (h2 : w.cell? ⟨g, o + 2, none⟩ = some (.string s0)) :
    TRows3 lo ns (((w.setCell ⟨g, o, none⟩ (.int .i64 j0)).setCell ⟨g, o + 1, none⟩ (.int .i64 j1)).setCell ⟨g, o + 2, none⟩ (.string s1)) r := by
  rcases h with h | ⟨b, o', cap, e, hc⟩
  · exact .inl h
  · refine .inr ⟨b, o', cap, e, fun i n hi => ?_⟩
    obtain ⟨a, m, c, k1, k2⟩ := hc i n hi
    refine ⟨a, m, c, ?_, k2.set h0 h1 h2⟩
    rcases cell_kind (j0 := j0) (j1 := j1) (s1 := s1) h0 h1 h2 ⟨b, o' + i, none⟩ with e | ⟨_, z', e, _⟩ | ⟨_, z', e, _⟩
    · exact e.trans k1
    · rw [k1] at e; cases e
    · rw [k1] at e; cases e
theorem TRow3.below {lo n : Nat} {w w' : World} {r : Value} (h : TRow3 lo n w r) (hb : Below w.heap.size w w') : TRow3 lo n w' r := by
  rcases h with h | ⟨g, cap, e, hlo, hlt, hf, hc⟩
  · exact .inl h
  · refine .inr ⟨g, cap, e, hlo, Nat.lt_of_lt_of_le hlt hb.size, fun o => by rw [hb.frozen (p := ⟨g, o, none⟩) hlt]; exact hf o, fun i hi => ?_⟩
    obtain ⟨⟨z0, k0⟩, ⟨z1, k1⟩, z2, k2⟩ := hc i hi
    exact ⟨⟨z0, (hb.cell (p := ⟨g, i * 3, none⟩) hlt).trans k0⟩, ⟨z1, (hb.cell (p := ⟨g, i * 3 + 1, none⟩) hlt).trans k1⟩, z2, (hb.cell (p := ⟨g, i * 3 + 2, none⟩) hlt).trans k2⟩
theorem TRows3.below {lo : Nat} {ns : List Nat} {w w' : World} {r : Value} (h : TRows3 lo ns w r) (hb : Below w.heap.size w w') : TRows3 lo ns w' r := by
  rcases h with h | ⟨b, o, cap, h1, h2⟩
  · exact .inl h
  · refine .inr ⟨b, o, cap, h1, fun i n hi => ?_⟩
    obtain ⟨a, m, c, g1, g2⟩ := h2 i n hi
    exact ⟨a, m, c, by rw [hb.cell (World.block_lt_of_cell? _ _ g1)]; exact g1, g2.below hb⟩
theorem TRows3.slice {lo : Nat} {ns : List Nat} {w : World} {r : Value} (h : TRows3 lo ns w r) : ∃ a c, r = .slice a ns.length c := by
  rcases h with ⟨rfl, a, rfl⟩ | ⟨b, o, cap, rfl, _⟩
  · exact ⟨a, 0, rfl⟩
  · exact ⟨_, _, rfl⟩
theorem TRows3.at {lo : Nat} {ns : List Nat} {w : World} {a : Option Addr} {n c : Nat} (h : TRows3 lo ns w (.slice a n c)) {I k : Nat} (hI : ns[I]? = some k) :
    ∃ b o a' c', a = some ⟨b, o, none⟩ ∧ w.cell? ⟨b, o + I, none⟩ = some (.slice a' k c') ∧ TRow3 lo k w (.slice a' k c') := by
  rcases h with ⟨rfl, _⟩ | ⟨b, o, cap, hr, h2⟩
  · simp at hI
  · obtain ⟨a', m, c', g1, g2⟩ := h2 I k hI
    simp only [Value.slice.injEq] at hr
    have hm := g2.len
    subst hm
    exact ⟨b, o, a', c', hr.1, g1, g2⟩
theorem rS_typed3 {lo : Nat} {X : Nat → Prop} {LL : List (List V3)} {w : World} {r : Value} (h : CVR w X (.vs (rS (RowAt lo) LL)) r) : TRows3 lo (LL.map List.length) w r := by
  rcases CVR_inv h with ⟨hnil, a, rfl⟩ | ⟨b, o, sz, c, g, rfl, hsz, hc, hcell, hval⟩
  · have : LL = [] := by
      have := rS_len (Q := RowAt lo) LL
      rw [hnil] at this
      exact List.length_eq_zero_iff.1 this.symm
    subst this
    exact .inl ⟨rfl, a, rfl⟩
  · refine .inr ⟨b, o, c, by rw [rS_len, List.length_map], fun i n hi => ?_⟩
    rw [List.getElem?_map] at hi
    cases hL : LL[i]? with
    | none => rw [hL] at hi; cases hi
    | some L =>
      rw [hL] at hi
      simp only [Option.map_some, Option.some.injEq] at hi
      subst hi
      have he : (rS (RowAt lo) LL)[i]? = some [.sem (RowAt lo L)] := by simp [rS, hL]
      have h1 : sz = 1 := (hsz _ (List.mem_of_getElem? he)).symm
      subst h1
      obtain ⟨_, hc1⟩ := hcell i _ he 0 _ rfl
      have hv := hval i _ he 0 _ rfl
      generalize g i 0 = x at hc1 hv
      have hr : RowAt lo L w x := by
        cases hv with
        | sem _ _ _ hq => exact hq w (Nat.le_refl _) (fun _ _ _ => rfl)
      rw [Nat.add_zero, Nat.mul_one] at hc1
      obtain ⟨a, c', rfl⟩ := hr.form
      exact ⟨a, L.length, c', hc1, hr.typed3⟩
end Go.Proofs.Ytdgjcdhomfhfpaa
namespace Go.Proofs.Ytdgjcdhomfhfpaa
open Go.RowKit Go.IntWalk
set_option linter.unusedSimpArgs false
set_option linter.unusedVariables false
attribute [local go_sem] Oper.semAt_some

theorem small_calls2 {W : World} {LL : List (List V3)} (hn : LL.length ≤ 4611686018427387903) {lv : Value} (cl : CVR W (fun _ => False) (.vs (rcL LL)) lv) :
    Calls Try.prog 8 #[lv] W (Ret (.bool (smallL LL)) W) := by
  refine Calls.mono (FnC.calls (canEnter_of Try.func8 (by kernel_rfl) (by kernel_rfl)) (c_small LL hn) W (fun _ => False) [lv] glo_none (fun _ h => h.elim) (by simp only [DVRs, DVR, and_true]; exact cl)) ?_
  rintro e w' ⟨v, rfl, hd, hB⟩
  simp only [DVR] at hd
  cases hd
  exact ⟨rfl, hB⟩
theorem slice_form2 {w : World} {X : Nat → Prop} {els : List (List CV)} {v : Value} (h : CVR w X (.vs els) v) : ∃ a c, v = .slice a els.length c := by
  rcases CVR_inv h with ⟨rfl, a, rfl⟩ | ⟨b, o, sz, c, g, rfl, _⟩
  · exact ⟨_, _, rfl⟩
  · exact ⟨_, _, rfl⟩
set_option maxRecDepth 100000 in
set_option maxHeartbeats 8000000 in
/-- no sorter is made -/
theorem plays_bad (w : World) (z : Int) (hz : -9223372036854775808 ≤ z ∧ z ≤ 9223372036854775807) (K : List K3) (hK : K.length ≤ 1048576) (kv : Value) (ck : CVR w (fun _ => False) (.vs (kc K)) kv) (lv : Value) (hl : lv.oneCell' = true) (hbad : newE z K ≠ 0) :
    Calls Try.prog 3 #[.int .i64 z, kv, lv] w (Ret (.bool true) w) := by
  have hlK : K.length ≤ Lim := by show K.length ≤ 4611686018427387903; omega
  go_enter Try.func3, Try.ntmps3
  go_wp2_with fail
  refine Calls.mono (new_calls (K := K) z hz hK (X := fun _ => False) (fun _ h => h.elim) ck (fun _ => True)) ?_
  rintro e W1 ⟨hB1, ⟨_, rfl⟩ | ⟨h, _⟩⟩
  rotate_left
  · exact absurd h hbad
  go_wp2_with fail
  refine Calls.mono (dNew_calls (z := z) hlK (X := fun _ => False) (fun _ h => h.elim) (cv_on ck hB1)) ?_
  rintro e W2 ⟨hB2, ⟨h, _⟩ | ⟨_, u, rfl, dk, dl, rfl, hdk, hdl⟩⟩
  · exact absurd h hbad
  obtain ⟨dka, dkc, rfl⟩ := slice_form2 hdk
  obtain ⟨dla, dlc, rfl⟩ := slice_form2 hdl
  have hB := hB1.trans (hB2.mono hB1.size)
  have hne : (newE z K != 0) = true := by simp [hbad]
  generalize newE z K = E at hne hbad ⊢
  go_wp2_with fail
  refine Calls.mono (live_calls _) ?_
  rintro e W5 ⟨rfl, hB5⟩
  go_wp2_with fail
  go_ret
  refine ⟨rfl, ?_⟩
  exact (hB.alloc hB.size _).trans (hB5.mono (by rw [World.size_alloc]; have := hB.size; omega))
set_option maxRecDepth 100000 in
set_option maxHeartbeats 8000000 in
/-- a sorter is made -/
theorem plays_good (w : World) (z : Int) (hz : -9223372036854775808 ≤ z ∧ z ≤ 9223372036854775807) (K : List K3) (hK : K.length ≤ 1048576) (ka : Option Addr) (kcap : Nat) (ck : CVR w (fun _ => False) (.vs (kc K)) (.slice ka K.length kcap))
    (LL : List (List V3)) (hn : LL.length ≤ 4611686018427387903) (la : Option Addr) (lc : Nat) (cl : CVR w (fun _ => False) (.vs (rcL LL)) (.slice la LL.length lc)) (hok : smallL LL = true → RowsOk LL) (hgood : newE z K = 0) :
    Calls Try.prog 3 #[.int .i64 z, .slice ka K.length kcap, .slice la LL.length lc] w (Ret (.bool true) w) := by
  have hlK : K.length ≤ Lim := by show K.length ≤ 4611686018427387903; omega
  have hzn : 1 ≤ z ∧ z ≤ 65536 := by
    unfold newE at hgood
    split at hgood
    · cases hgood
    · omega
  obtain ⟨n, rfl⟩ : ∃ n : Nat, z = (n : Int) := ⟨z.toNat, by omega⟩
  have hn1 : 1 ≤ n := by omega
  have hn2 : n ≤ 65536 := by omega
  go_enter Try.func3, Try.ntmps3
  go_wp2_with fail
  refine Calls.mono (new_calls (K := K) (n : Int) hz hK (X := fun _ => False) (fun _ h => h.elim) ck (fun _ => True)) ?_
  rintro e W1 ⟨hB1, ⟨h, _⟩ | ⟨_, sb, rfl, hsb, hS1⟩⟩
  · exact absurd hgood h
  rw [Int.toNat_natCast] at hS1
  go_wp2_with fail
  have hXo : ∀ b, OwnO (fun _ => False) sb none b → b < W1.heap.size := hS1.own_lt
  have ck1 : CVR W1 (OwnO (fun _ => False) sb none) (.vs (kc K)) (.slice ka K.length kcap) := ck.step ⟨fun b _ h => hB1.block b h, (fun b h => by
    rcases h with h | rfl | ⟨_, h⟩
    · exact .inl h
    · exact .inr (by omega)
    · cases h), hB1.size⟩
  refine Calls.mono (dNew_calls (z := (n : Int)) hlK hXo ck1) ?_
  rintro e W2 ⟨hB2, ⟨_, u, rfl, dk, dl, rfl, hdk, hdl⟩ | ⟨h, _⟩⟩
  rotate_left
  · exact absurd hgood h
  obtain ⟨dka, dkc, rfl⟩ := slice_form2 hdk
  obtain ⟨dla, dlc, rfl⟩ := slice_form2 hdl
  rw [kc_len] at hdk ⊢
  rw [rcL_len] at hdl ⊢
  have hnil : ([] : List (List V3)).length = 0 := rfl
  rw [hnil] at hdl ⊢
  have T := PlB.start hS1 hsb hB1 hB2 hdk hdl
  go_wp2_with fail
  obtain ⟨Wb, hWb⟩ : ∃ Wb, Wb = W2.alloc (.cells #[.int .i64 (n : Int), .slice dka K.length dkc, .slice dla 0 dlc] 29) := ⟨_, rfl⟩
  rw [← hWb] at T ⊢
  clear hWb hdk hdl ck1 hXo hS1 hB1
  generalize W2.heap.size = bw at T ⊢
  clear hB2 hsb
  refine Calls.mono (small_calls2 hn (cv_on cl T.hB)) ?_
  rintro e W4 ⟨rfl, hB4⟩
  have T4 := T.below hB4
  clear T hB4
  by_cases hfew : smallL LL = true ∧ K.length ≤ 20
  rotate_left
  · cases hsm : smallL LL with
    | false =>
      go_wp2_with fail
      refine Calls.mono (live_calls W4) ?_
      rintro e W5 ⟨rfl, hB5⟩
      go_wp2_with fail
      go_ret
      exact ⟨rfl, (T4.below hB5).hB⟩
    | true =>
      have hK20 : (20 : Int) < (K.length : Int) := by
        have : ¬ K.length ≤ 20 := fun h => hfew ⟨hsm, h⟩
        omega
      go_wp2_with fail
      refine Calls.mono (live_calls W4) ?_
      rintro e W5 ⟨rfl, hB5⟩
      go_wp2_with fail
      go_ret
      exact ⟨rfl, (T4.below hB5).hB⟩
  obtain ⟨hsm, hK20⟩ := hfew
  have hLL := hok hsm
  obtain ⟨hl200, hl20⟩ := small_ok hsm
  have hk20 : ¬ (20 : Int) < (K.length : Int) := by omega
  rw [hsm]
  have HG := Lib.hid hgood
  have HS := Lib.hid hsm
  clear hgood hsm hok hn
  go_wp2_with fail
  go_loopw [11] (fun i wr => ∃ (k : Nat) (ta : Option (Nat × Nat)), i = .int .i64 (k : Nat) ∧ k ≤ LL.length ∧ PlB K n w sb bw (fun b => b = bw) (LL.take k) (LL.take k) wr ta) (fun i _ => LL.length - (intOf i).toNat)
  case atStart => exact ⟨0, none, by simp, by omega, by simpa using T4⟩
  case round =>
    obtain ⟨k, ta, rfl, hk, T⟩ := hrel
    clear T4
    by_cases hlt : k < LL.length
    · have hlti : (k : Int) < (LL.length : Int) := by omega
      obtain ⟨b, o, c, x, hr, hcx, hx, _⟩ := row_at cl hlt
      injection hr with hr1 _ hr3
      subst hr1 hr3
      have hBr := T.hB
      have hbo : b < w.heap.size := World.block_lt_of_cell? _ _ hcx
      have hcr : wr.cell? ⟨b, o + k, none⟩ = some x := (hBr.cell (p := ⟨b, o + k, none⟩) (World.block_lt_of_cell? _ _ hcx)).trans hcx
      have hlL : (LL.getD k []).length ≤ 20 := by
        rw [List.getD_eq_getElem?_getD, List.getElem?_eq_getElem hlt]
        exact hl20 _ (List.getElem_mem _)
      obtain ⟨L, hL⟩ : ∃ L, L = LL.getD k [] := ⟨_, rfl⟩
      rw [← hL] at hx hlL
      have HL := Lib.hid hL
      clear hL
      have htl : (LL.take k).length < 65536 := by rw [List.length_take]; omega
      have hxr := cv_on hx hBr
      have hsz0 := hBr.size
      have hbr : b < wr.heap.size := Nat.lt_of_lt_of_le hbo hsz0
      have hcA : (wr.alloc (.cells #[] 38)).cell? ⟨b, o + k, none⟩ = some x := (((Below.refl _ wr).alloc (Nat.le_refl _) _).cell (p := ⟨b, o + k, none⟩) hbr).trans hcr
      clear hcx
      go_wp2_with (at_builtin; refine wpList_append_copy rfl _ _ rfl wr.heap.size _ _ rfl (World.ownsRow_made wr #[] 0 (Nat.le_refl _) (Nat.zero_le _) (by simp)) (L := L) (by omega) rfl (cv_on hxr ((Below.refl _ wr).alloc (Nat.le_refl _) _)) (by simp) ?_)
      intro v' w1 hrow hgrow
      have hB1 : Below wr.heap.size wr w1 := ((Below.refl _ wr).alloc (Nat.le_refl _) _).grown hgrow (by simp) (by intro k hk; simp [Value.ownBlock] at hk; omega)
      obtain ⟨ra, rc, rfl⟩ := hrow.form
      clear hgrow
      go_wp2_with fail
      refine Calls.mono (T.add (L := L) hB1 htl (by omega) (hrow.hand T.own_lt)) ?_
      rintro e w2 ⟨rfl, ta2, T2, hz2, hs2⟩
      have hrow2 := hrow.keep hs2
      have hlies := hrow.lies
      clear hrow hs2
      go_wp2_with fail
      obtain ⟨dk, dl, hbw, hdoc⟩ := T2.doc
      have hbwl : bw < w2.heap.size := (T2.Bl _ T2.Bw).2
      obtain ⟨B2, hB2⟩ : ∃ B2, B2 = fun b => b = bw ∨ (wr.heap.size ≤ b ∧ b < w1.heap.size) := ⟨_, rfl⟩
      rw [← hB2] at T2 hdoc
      rw [← wpIn_wide (n := 0)]
      refine regionIn_valsS (by kernel_rfl) (fun _ => trivial) rfl (fun f args w R h => callsIn_wide.2 h) (by kernel_rfl)
        (fun (r : Value) i => match i with | 0 => .agg #[.int .i64 (n : Int), dk, dl] | 1 => .slice (some ⟨b, o, none⟩) LL.length lc | 2 => .int .i64 (k : Int) | 3 => .pointer (some ⟨b, o + k, none⟩) | 4 => x | 5 => .tuple #[r, .int .i64 0] | 6 => .tuple #[r, .int .i64 0] | 7 => r | _ => .int .i64 0)
        (fun r D W => DocPh K n w sb bw B2 (LL.take k ++ [L]) (LL.take k) (LL.take k ++ [L]) ta2 wr.heap.size (L) (.slice ra L.length rc) w2 r (D 5) (D 9) W) undef (DocPh.start T2 hrow2) ?steps ?rdone
      case steps =>
        intro DD i op r aa W3 hop hDi hcl hdep hA hP
        have hi : i < 11 := (Array.getElem?_eq_some_iff.1 hop).1
        have : i = 0 ∨ i = 1 ∨ i = 2 ∨ i = 3 ∨ i = 4 ∨ i = 5 ∨ i = 6 ∨ i = 7 ∨ i = 8 ∨ i = 9 ∨ i = 10 := by omega
        rcases this with rfl | rfl | rfl | rfl | rfl | rfl | rfl | rfl | rfl | rfl | rfl
        all_goals (simp only [List.getElem?_toArray, List.getElem?_cons_zero, List.getElem?_cons_succ, Option.some.injEq] at hop; subst hop)
        · have k9 := hA.keep 9 (by kernel_rfl)
          have hP0 := hP
          have h5 : DD 5 = false := by
            cases h : DD 5
            · rfl
            · have := hcl 5 _ h rfl ⟨0, .data⟩ (by simp) rfl
              rw [hDi] at this; cases this
          rw [h5] at hP
          cases h9 : DD 9
          · rw [h9] at hP
            have hbw3 := (hP.2.2.block _ hbwl).trans hbw
            have q0 : W3.cell? ⟨bw, 0, none⟩ = some (.int .i64 (n : Int)) := by simp [World.cell?, hbw3]
            have q1 : W3.cell? ⟨bw, 1, none⟩ = some dk := by simp [World.cell?, hbw3]
            have q2 : W3.cell? ⟨bw, 2, none⟩ = some dl := by simp [World.cell?, hbw3]
            exact .inl (.inl ⟨r, W3, by simp, (by simp [execOp, go_sem, k9, q0, q1, q2]), fun _ _ => rfl, hP0⟩)
          · rw [h9] at hP; exact hP.elim
        · have k2 := hA.keep 2 (by kernel_rfl)
          exact .inl (.inl ⟨r, W3, by simp, (by simp [execOp, go_sem, k2]), fun _ _ => rfl, hP⟩)
        · have k11 := hA.keep 11 (by kernel_rfl)
          exact .inl (.inl ⟨r, W3, by simp, (by simp [execOp, go_sem, k11]), fun _ _ => rfl, hP⟩)
        · have e1 := hA.was 1 72 rfl (hdep ⟨1, .data⟩ (by simp) rfl) (by simp)
          have e2 := hA.was 2 73 rfl (hdep ⟨2, .data⟩ (by simp) rfl) (by simp)
          exact .inl (.inl ⟨r, W3, by simp, (by simp [execOp, go_sem, e1, e2, hlti]), fun _ _ => rfl, hP⟩)
        · have e3 := hA.was 3 74 rfl (hdep ⟨3, .data⟩ (by simp) rfl) (by simp)
          have q : W3.cell? ⟨b, o + k, none⟩ = some x := (hP.hB.cell (p := ⟨b, o + k, none⟩) hbo).trans ((hBr.cell (p := ⟨b, o + k, none⟩) hbo).symm.trans hcr)
          exact .inl (.inl ⟨r, W3, by simp, (by simp [execOp, go_sem, e3, q]), fun _ _ => rfl, hP⟩)
        · have e0 := hA.was 0 71 rfl (hdep ⟨0, .data⟩ (by simp) rfl) (by simp)
          have e4 := hA.was 4 75 rfl (hdep ⟨4, .data⟩ (by simp) rfl) (by simp)
          have n6 : DD 6 = false := by
            cases h : DD 6
            · rfl
            · have := hcl 6 _ h rfl ⟨5, .data⟩ (by simp) rfl
              rw [hDi] at this; cases this
          have n7 : DD 7 = false := by
            cases h : DD 7
            · rfl
            · have := hcl 7 _ h rfl ⟨6, .data⟩ (by simp) rfl
              rw [n6] at this; cases this
          rw [hDi] at hP
          cases h9 : DD 9
          rotate_left
          · rw [h9] at hP; exact hP.elim
          rw [h9] at hP
          obtain ⟨T3, hrow3, hB3⟩ := hP
          refine .inl (.inr ⟨11, #[.agg #[.int .i64 (n : Int), dk, dl], x], by simp, (by simp [execOp, e0, e4, go_sem]), ?_⟩)
          refine Calls.mono (dAdd_calls (L := L) htl T3.own_lt (hdoc.below hB3) (T3.arg hx)) ?_
          rintro e w4 ⟨u', rfl, hu', hB4⟩
          refine ⟨u', rfl, fun j hj => ?_, ?_⟩
          · match j, hj with
            | 0, _ => rfl
            | 1, _ => rfl
            | 2, _ => rfl
            | 3, _ => rfl
            | 4, _ => rfl
            | 5, h => rw [hDi] at h; cases h
            | 6, h => rw [n6] at h; cases h
            | 7, h => rw [n7] at h; cases h
            | j + 8, _ => rfl
          · show DocPh K n w sb bw B2 _ _ _ ta2 _ _ _ w2 u' true (DD 9) w4
            rw [h9]
            exact ⟨T3.below hB4, hrow3.keep (fun b _ hlt => hB4.block b hlt), hu'⟩
        · have e5 := hA.was 5 76 rfl (hdep ⟨5, .data⟩ (by simp) rfl) (by simp)
          exact .inl (.inl ⟨r, W3, by simp, (by simp [execOp, go_sem, e5]), fun _ _ => rfl, hP⟩)
        · have e6 := hA.was 6 70 rfl (hdep ⟨6, .data⟩ (by simp) rfl) (by simp)
          exact .inl (.inl ⟨r, W3, by simp, (by simp [execOp, go_sem, e6]), fun _ _ => rfl, hP⟩)
        · have e6 := hA.was 6 70 rfl (hdep ⟨6, .data⟩ (by simp) rfl) (by simp)
          exact .inl (.inl ⟨r, W3, by simp, (by simp [execOp, go_sem, e6]), fun _ _ => rfl, hP⟩)
        · have h7 := hdep ⟨7, .data⟩ (by simp) rfl
          have e7 := hA.was 7 77 rfl h7 (by simp)
          have k9 := hA.keep 9 (by kernel_rfl)
          have h5 : DD 5 = true := hcl 6 _ (hcl 7 _ h7 rfl ⟨6, .data⟩ (by simp) rfl) rfl ⟨5, .data⟩ (by simp) rfl
          rw [h5, hDi] at hP
          obtain ⟨T3, hrow3, dk3, dl3, rfl, hk3, hl3⟩ := hP
          obtain ⟨dk0, dl0, hbw3, _, _⟩ := T3.D
          obtain ⟨ka3, kc3, rfl⟩ := slice_form2 hk3
          obtain ⟨la3, lc3, rfl⟩ := slice_form2 hl3
          have q0 : W3.cell? ⟨bw, 0, none⟩ = some (.int .i64 (n : Int)) := by simp [World.cell?, hbw3]
          have q1 : W3.cell? ⟨bw, 1, none⟩ = some dk0 := by simp [World.cell?, hbw3]
          have q2 : W3.cell? ⟨bw, 2, none⟩ = some dl0 := by simp [World.cell?, hbw3]
          have f0 : ∀ o, W3.frozen? ⟨bw, o, none⟩ = false := fun o => by simp [World.frozen?, hbw3]
          refine .inr ⟨_, rfl, by simp, (by simp [execOp, go_sem, k9, e7, q0, q1, q2, f0]; rfl), ?_⟩
          have hlo : bw < wr.heap.size := (T.Bl _ T.Bw).2
          show DocPh K n w sb bw B2 _ _ _ ta2 _ _ _ w2 _ (DD 5) true _
          rw [h5]
          exact ⟨T3.put rfl rfl rfl (by simp) (fun b hb => heap_three_other hb _ _ _ _ _ _) (heap_three hbw3 _ _ _) hk3 hl3, hrow3.keep (fun b h1 _ => heap_three_other (by omega) _ _ _ _ _ _)⟩
        · have e8 := hA.was 8 78 rfl (hdep ⟨8, .data⟩ (by simp) rfl) (by simp)
          exact .inl (.inl ⟨r, W3, by simp, (by simp [execOp, go_sem, e8]), fun _ _ => rfl, hP⟩)
      case rdone =>
        intro DD r aa W4 hall hA hP
        have ha := hA.eq (goodR.apart (by kernel_rfl)) hall
        simp only [putsR, Act.put, List.setIfInBounds_toArray, List.set_cons_zero, List.set_cons_succ] at ha
        subst ha
        have h5 := hall 5 (by decide)
        have h9 := hall 9 (by decide)
        rw [h5, h9] at hP
        obtain ⟨T4, hrow4⟩ := hP
        clear hA hall
        gi_wp2
        go_wp2_with fail
        have hrT := (hrow4.lo (Nat.zero_le _)).typed3
        have hgB : ∀ a n c, Value.slice ra L.length rc = .slice (some a) n c → B2 a.block ∧ a.block ≠ bw := fun a n c e => by
          have h1 := hlies a n c e
          have h2 := (T.Bl _ T.Bw).2
          rw [hB2]
          exact ⟨.inr h1, by omega⟩
        have hBB : ∀ b, b = bw → B2 b := fun b hb => by rw [hB2]; exact .inl hb
        clear hrow4 hrow2 hdoc hlies hB2 T hBr hcr hcA hxr hB1 T2 hbr hsz0 hz2 hbw hbwl
        go_loopw [13] (fun j wq => ∃ J : Nat, j = .int .i64 J ∧ J ≤ L.length ∧ PlB K n w sb bw B2 (LL.take k ++ [L]) (LL.take k ++ [L]) wq ta2 ∧ TRow3 0 L.length wq (.slice ra L.length rc)) (fun j _ => L.length - (intOf j).toNat)
        case atStart => exact ⟨0, rfl, by omega, T4, hrT⟩
        case round =>
          clear T4 hrT
          obtain ⟨J, rfl, hJ, T4, hrT⟩ := hrel
          by_cases hjk : J < L.length
          · have hjki : (J : Int) < (L.length : Int) := by omega
            obtain ⟨g, z0, z1, s2, rfl, _, hlo, hgl, hc0, hc1, hc2, hf⟩ := hrT.at hjk
            have hgb : B2 g ∧ g ≠ bw := hgB _ _ _ rfl
            have hf0 := hf (J * 3)
            have hf1 := hf (J * 3 + 1)
            have hf2 := hf (J * 3 + 2)
            go_wp2_with fail
            exact ⟨⟨J + 1, rfl, hjk, T4.wrote rfl rfl rfl (by simp) (fun b hb => heap_three_other (fun e => by subst e; exact hgb.2 (hb hgb.1)) _ _ _ _ _ _), hrT.set hc0 hc1 hc2⟩, by simp [intOf]; omega⟩
          · have hjki : ¬ (J : Int) < (L.length : Int) := by omega
            have T5 := T4.back (B' := fun b => b = bw) rfl hBB
            have hL5 : LL.take k ++ [L] = LL.take (k + 1) := by rw [HL.out]; exact (take_snoc LL [] k hlt).symm
            rw [hL5] at T5
            clear T4 hrT hgB hBB hL5
            go_wp2_with fail
            obtain ⟨M, hM⟩ : ∃ M, M = (LL.take (k + 1)).length := ⟨_, rfl⟩
            have hM2 : M ≤ 200 := by rw [hM, List.length_take]; omega
            obtain ⟨dk, dl, hbw, hdk, hdl⟩ := T5.D
            obtain ⟨ka5, kc5, rfl⟩ := slice_form2 hdk
            obtain ⟨la5, lc5, rfl⟩ := slice_form2 hdl
            rw [rcL_len, ← hM] at hdl hbw
            rw [kc_len] at hdk hbw
            have hdoc : DocC n K (LL.take (k + 1)) wr (OwnO (fun b => b = bw) sb ta2) (.agg #[.int .i64 (n : Int), .slice ka5 K.length kc5, .slice la5 M lc5]) := ⟨_, _, rfl, hdk, hdl⟩
            have hbwl : bw < wr.heap.size := (T5.Bl _ T5.Bw).2
            have q0 : wr.cell? ⟨bw, 0, none⟩ = some (.int .i64 (n : Int)) := by simp [World.cell?, hbw]
            have q1 : wr.cell? ⟨bw, 1, none⟩ = some (.slice ka5 K.length kc5) := by simp [World.cell?, hbw]
            have q2 : wr.cell? ⟨bw, 2, none⟩ = some (.slice la5 M lc5) := by simp [World.cell?, hbw]
            obtain ⟨R, hR⟩ : ∃ R, R = (M + n - 1) / n := ⟨_, rfl⟩
            rw [← wpIn_wide (n := 0)]
            refine regionIn_valsG (by kernel_rfl) (fun _ => trivial) rfl (fun f args w R h => callsIn_wide.2 h) (by kernel_rfl) (sizes_of (by kernel_rfl))
              (fun (_ : Unit) i => match i with | 0 => .int .i64 0 | 1 => .int .i64 0 | 4 => .pointer (some ⟨sb, 0, none⟩) | 5 => .int .i64 (M : Nat) | 6 => .pointer (some ⟨bw, 2, none⟩) | 7 => .slice la5 M lc5 | 8 => .int .i64 (M : Nat) | 12 => .pointer (some ⟨sb, 0, none⟩) | 13 => .int .i64 (R : Nat) | 14 => .agg #[.int .i64 (n : Int), .slice ka5 K.length kc5, .slice la5 M lc5] | 15 => .int .i64 (R : Nat) | _ => .bool false)
              ?guards (fun _ _ w' => Below wr.heap.size wr w') () ((Below.refl _ _).drew) ?steps ?rdone
            case guards =>
              intro r i o g b ho hg
              have hi : i < 18 := (Array.getElem?_eq_some_iff.1 ho).1
              have : i = 0 ∨ i = 1 ∨ i = 2 ∨ i = 3 ∨ i = 4 ∨ i = 5 ∨ i = 6 ∨ i = 7 ∨ i = 8 ∨ i = 9 ∨ i = 10 ∨ i = 11 ∨ i = 12 ∨ i = 13 ∨ i = 14 ∨ i = 15 ∨ i = 16 ∨ i = 17 := by omega
              rcases this with rfl | rfl | rfl | rfl | rfl | rfl | rfl | rfl | rfl | rfl | rfl | rfl | rfl | rfl | rfl | rfl | rfl | rfl
              all_goals (simp only [List.getElem?_toArray, List.getElem?_cons_zero, List.getElem?_cons_succ, Option.some.injEq] at ho; subst ho; first | (cases hg; done) | (cases hg; rfl))
            case steps =>
              intro DD i op r aa W3 hop hDi hcl hdep hA hP
              have hi : i < 18 := (Array.getElem?_eq_some_iff.1 hop).1
              have p0 : W3.cell? ⟨bw, 0, none⟩ = some (.int .i64 (n : Int)) := (hP.cell (p := ⟨bw, 0, none⟩) hbwl).trans q0
              have p1 : W3.cell? ⟨bw, 1, none⟩ = some (.slice ka5 K.length kc5) := (hP.cell (p := ⟨bw, 1, none⟩) hbwl).trans q1
              have p2 : W3.cell? ⟨bw, 2, none⟩ = some (.slice la5 M lc5) := (hP.cell (p := ⟨bw, 2, none⟩) hbwl).trans q2
              have T3 := T5.below hP
              have : i = 0 ∨ i = 1 ∨ i = 2 ∨ i = 3 ∨ i = 4 ∨ i = 5 ∨ i = 6 ∨ i = 7 ∨ i = 8 ∨ i = 9 ∨ i = 10 ∨ i = 11 ∨ i = 12 ∨ i = 13 ∨ i = 14 ∨ i = 15 ∨ i = 16 ∨ i = 17 := by omega
              rcases this with rfl | rfl | rfl | rfl | rfl | rfl | rfl | rfl | rfl | rfl | rfl | rfl | rfl | rfl | rfl | rfl | rfl | rfl
              all_goals (simp only [List.getElem?_toArray, List.getElem?_cons_zero, List.getElem?_cons_succ, Option.some.injEq] at hop; subst hop)
              · have k8 := hA.keep 8 (by kernel_rfl)
                exact .inl ⟨(), W3, by simp, (by simp [execOp, go_sem, k8]), fun _ _ => rfl, hP⟩
              · have k10 := hA.keep 10 (by kernel_rfl)
                exact .inl ⟨(), W3, by simp, (by simp [execOp, go_sem, k10]), fun _ _ => rfl, hP⟩
              · have e0 := hA.was 0 89 rfl (hdep ⟨0, .data⟩ (by simp) rfl) (by simp)
                have e1 := hA.was 1 90 rfl (hdep ⟨1, .data⟩ (by simp) rfl) (by simp)
                exact .inl ⟨(), W3, by simp, (by simp [execOp, go_sem, e0, e1]), fun _ _ => rfl, hP⟩
              · have e2 := hA.was 2 91 rfl (hdep ⟨2, .data⟩ (by simp) rfl) (by simp)
                exact .inl ⟨(), W3, by simp, (by simp [execOp, go_sem, e2]), fun _ _ => rfl, hP⟩
              · have k7 := hA.keep 7 (by kernel_rfl)
                exact .inl ⟨(), W3, by simp, (by simp [execOp, go_sem, k7]), fun _ _ => rfl, hP⟩
              · have e4 := hA.was 4 93 rfl (hdep ⟨4, .data⟩ (by simp) rfl) (by simp)
                refine .inr ⟨12, #[.pointer (some ⟨sb, 0, none⟩)], by simp, (by simp [execOp, e4, go_sem]), ?_⟩
                refine Calls.mono T3.S.len_calls ?_
                rintro e w4 ⟨rfl, rfl⟩
                exact ⟨(), by show _ = Ending.returned (.int .i64 (M : Nat)); rw [hM], fun _ _ => rfl, hP⟩
              · have k9 := hA.keep 9 (by kernel_rfl)
                exact .inl ⟨(), W3, by simp, (by simp [execOp, go_sem, k9]), fun _ _ => rfl, hP⟩
              · have e6 := hA.was 6 95 rfl (hdep ⟨6, .data⟩ (by simp) rfl) (by simp)
                exact .inl ⟨(), W3, by simp, (by simp [execOp, go_sem, e6, p2]), fun _ _ => rfl, hP⟩
              · have e7 := hA.was 7 96 rfl (hdep ⟨7, .data⟩ (by simp) rfl) (by simp)
                exact .inl ⟨(), W3, by simp, (by simp [execOp, go_sem, e7]), fun _ _ => rfl, hP⟩
              · have e5 := hA.was 5 94 rfl (hdep ⟨5, .data⟩ (by simp) rfl) (by simp)
                have e8 := hA.was 8 97 rfl (hdep ⟨8, .data⟩ (by simp) rfl) (by simp)
                exact .inl ⟨(), W3, by simp, (by simp [execOp, go_sem, e5, e8]), fun _ _ => rfl, hP⟩
              · have e3 := hA.was 3 92 rfl (hdep ⟨3, .data⟩ (by simp) rfl) (by simp)
                have e9 := hA.was 9 98 rfl (hdep ⟨9, .data⟩ (by simp) rfl) (by simp)
                exact .inl ⟨(), W3, by simp, (by simp [execOp, go_sem, e3, e9]), fun _ _ => rfl, hP⟩
              · have e10 := hA.was 10 99 rfl (hdep ⟨10, .data⟩ (by simp) rfl) (by simp)
                exact .inl ⟨(), W3, by simp, (by simp [execOp, go_sem, e10]), fun _ _ => rfl, hP⟩
              · have k7 := hA.keep 7 (by kernel_rfl)
                exact .inl ⟨(), W3, by simp, (by simp [execOp, go_sem, k7]), fun _ _ => rfl, hP⟩
              · have e12 := hA.was 12 101 rfl (hdep ⟨12, .data⟩ (by simp) rfl) (by simp)
                refine .inr ⟨13, #[.pointer (some ⟨sb, 0, none⟩)], by simp, (by simp [execOp, e12, go_sem]), ?_⟩
                refine Calls.mono (T3.S.runs_len hn1 hn2 (by omega)) ?_
                rintro e w4 ⟨rfl, hB4⟩
                exact ⟨(), by show _ = Ending.returned (.int .i64 (R : Nat)); rw [hR, hM], fun _ _ => rfl, hP.trans (hB4.mono hP.size)⟩
              · have k9 := hA.keep 9 (by kernel_rfl)
                exact .inl ⟨(), W3, by simp, (by simp [execOp, go_sem, k9, p0, p1, p2]), fun _ _ => rfl, hP⟩
              · have e14 := hA.was 14 103 rfl (hdep ⟨14, .data⟩ (by simp) rfl) (by simp)
                refine .inr ⟨14, #[.agg #[.int .i64 (n : Int), .slice ka5 K.length kc5, .slice la5 M lc5]], by simp, (by simp [execOp, e14, go_sem]), ?_⟩
                refine Calls.mono (dRuns_calls hn1 hn2 (by omega) T3.own_lt (hdoc.below hP)) ?_
                rintro e w4 ⟨rfl, hB4⟩
                exact ⟨(), by show _ = Ending.returned (.int .i64 (R : Nat)); rw [hR, hM], fun _ _ => rfl, hP.trans (hB4.mono hP.size)⟩
              · have e13 := hA.was 13 102 rfl (hdep ⟨13, .data⟩ (by simp) rfl) (by simp)
                have e15 := hA.was 15 104 rfl (hdep ⟨15, .data⟩ (by simp) rfl) (by simp)
                exact .inl ⟨(), W3, by simp, (by simp [execOp, go_sem, e13, e15]), fun _ _ => rfl, hP⟩
              · have e11 := hA.was 11 100 rfl (hdep ⟨11, .data⟩ (by simp) rfl) (by simp)
                have e16 := hA.was 16 105 rfl (hdep ⟨16, .data⟩ (by simp) rfl) (by simp)
                exact .inl ⟨(), W3, by simp, (by simp [execOp, go_sem, e11, e16]), fun _ _ => rfl, hP⟩
            case rdone =>
              intro DD r aa W4 hall hA hP
              have ha := hA.eq (goodG.apart (by kernel_rfl)) hall
              simp only [putsR, Act.put, List.setIfInBounds_toArray, List.set_cons_zero, List.set_cons_succ] at ha
              subst ha
              have T6 := T5.below hP
              clear hA hall T5 hdoc hP q0 q1 q2 hbwl hdk hdl hbw
              gi_wp2
              by_cases hC : k % 5 ≠ 0 ∧ k + 1 ≠ LL.length
              · have hm5 : ¬ (k : Int) % 5 = 0 := by omega
                have hb5 : ((k : Int) % 5 == 0) = false := by simp [hm5]
                have hb1 : ((k : Int) + 1 == (LL.length : Int)) = false := by
                  have : ¬ (k : Int) + 1 = (LL.length : Int) := by omega
                  simp [this]
                go_wp2_with fail
                exact ⟨⟨k + 1, ta2, by simp, by omega, T6⟩, by simp [intOf]; omega⟩
              · have hLLt : RowsOk (LL.take (k + 1)) := hLL.take _
                by_cases hm0 : k % 5 = 0
                · have hm5 : (k : Int) % 5 = 0 := by omega
                  have hb5 : ((k : Int) % 5 == 0) = true := by simp [hm5]
                  go_wp2_with fail
                  refine Calls.mono (all_calls K hlK (LL.take (k + 1)) hLLt (by omega) n W4 _ rfl (T6.sortN hn1 hn2)) ?_
                  rintro e W5 ⟨v1, rfl, hB5, hv1⟩
                  have T7 := T6.below hB5
                  have r1 := rS_read hv1
                  have hT1 := rS_typed3 hv1
                  obtain ⟨ns, hns⟩ : ∃ ns, ns = (sortL K (LL.take (k + 1))).map List.length := ⟨_, rfl⟩
                  rw [← hns] at hT1
                  have hnl : ns.length = M := by rw [hns, List.length_map, sortL_len, hM]
                  have hns2 : ∀ m ∈ ns, m ≤ 1048576 := by
                    rw [hns]; intro m hm; obtain ⟨L', hL', rfl⟩ := List.mem_map.1 hm; exact ((sortL_ok (K := K) hLLt).2 L' hL').1
                  obtain ⟨a1, c1, rfl⟩ := hT1.slice
                  rw [hnl] at hT1 r1 ⊢
                  clear hv1 hns
                  obtain ⟨dk, dl, hbw, hdk, hdl⟩ := T7.D
                  obtain ⟨ka5, kc5, rfl⟩ := slice_form2 hdk
                  obtain ⟨la5, lc5, rfl⟩ := slice_form2 hdl
                  rw [rcL_len, ← hM] at hdl hbw
                  rw [kc_len] at hdk hbw
                  have hdoc : DocC n K (LL.take (k + 1)) W5 (OwnO (fun b => b = bw) sb ta2) (.agg #[.int .i64 (n : Int), .slice ka5 K.length kc5, .slice la5 M lc5]) := ⟨_, _, rfl, hdk, hdl⟩
                  have q0 : W5.cell? ⟨bw, 0, none⟩ = some (.int .i64 (n : Int)) := by simp [World.cell?, hbw]
                  have q1 : W5.cell? ⟨bw, 1, none⟩ = some (.slice ka5 K.length kc5) := by simp [World.cell?, hbw]
                  have q2 : W5.cell? ⟨bw, 2, none⟩ = some (.slice la5 M lc5) := by simp [World.cell?, hbw]
                  clear hbw hdk hdl hM
                  go_wp2_with fail
                  refine Calls.mono (dRows_calls hlK hLLt T7.own_lt hdoc) ?_
                  rintro e W6 ⟨v2, rfl, r2, hB6⟩
                  clear q0 q1 q2 hdoc
                  go_wp2_with fail
                  refine Calls.mono (same_calls (sortL_ok (K := K) hLLt) (cv_on r1 hB6) r2) ?_
                  rintro e W7 ⟨rfl, hB7⟩
                  rw [decide_eq_true rfl]
                  have hB8 : Below W4.heap.size W4 W7 := hB5.trans ((hB6.trans (hB7.mono hB6.size)).mono hB5.size)
                  have hT2 := (hT1.below hB6).below hB7
                  clear T7 r1 r2 hT1 hB5 hB6 hB7
                  go_wp2_with fail
                  go_loopw [16] (fun i wq => ∃ I : Nat, i = .int .i64 I ∧ I ≤ M ∧ Below W4.heap.size W4 wq ∧ TRows3 W4.heap.size ns wq (.slice a1 M c1)) (fun i _ => M - (intOf i).toNat)
                  case atStart => exact ⟨0, rfl, by omega, hB8, hT2⟩
                  case round =>
                    clear hB8 hT2
                    obtain ⟨I, rfl, hI, hB8, hT2⟩ := hrel
                    by_cases hIM : I < M
                    · have hIMi : (I : Int) < (M : Int) := by omega
                      obtain ⟨m, hm⟩ : ∃ m, ns[I]? = some m := ⟨_, List.getElem?_eq_getElem (by omega)⟩
                      have hmm := hns2 m (List.mem_of_getElem? hm)
                      go_wp2_with fail
                      go_loopw [17] (fun j wq => ∃ J : Nat, j = .int .i64 J ∧ J ≤ m ∧ Below W4.heap.size W4 wq ∧ TRows3 W4.heap.size ns wq (.slice a1 M c1)) (fun j _ => m - (intOf j).toNat)
                      case atStart => exact ⟨0, rfl, by omega, hB8, hT2⟩
                      case round =>
                        clear hB8 hT2
                        obtain ⟨J2, rfl, hJ2, hB8, hT2⟩ := hrel
                        obtain ⟨b2, o2, a2, c2, rfl, hcell, hrow⟩ := hT2.at hm
                        by_cases hjm : J2 < m
                        · have hjmi : (J2 : Int) < (m : Int) := by omega
                          obtain ⟨g, z0, z1, s2, rfl, _, hlo, hgl, hc0, hc1, hc2, hf⟩ := hrow.at hjm
                          have hf0 := hf (J2 * 3)
                          have hf1 := hf (J2 * 3 + 1)
                          have hf2 := hf (J2 * 3 + 2)
                          go_wp2_with fail
                          exact ⟨⟨J2 + 1, rfl, hjm, ((hB8.setCell hlo _).setCell hlo _).setCell hlo _, hT2.set hc0 hc1 hc2⟩, by simp [intOf]; omega⟩
                        · have hjmi : ¬ (J2 : Int) < (m : Int) := by omega
                          go_wp2_with fail
                          exact ⟨⟨I + 1, rfl, hIM, hB8, hT2⟩, by simp [intOf]; omega⟩
                    · have hIMi : ¬ (I : Int) < (M : Int) := by omega
                      go_wp2_with fail
                      exact ⟨⟨k + 1, ta2, by simp, by omega, T6.below hB8⟩, by simp [intOf]; omega⟩
                · have hm5 : ¬ (k : Int) % 5 = 0 := by omega
                  have hb5 : ((k : Int) % 5 == 0) = false := by simp [hm5]
                  have hb1 : ((k : Int) + 1 == (LL.length : Int)) = true := by
                    have : (k : Int) + 1 = (LL.length : Int) := by omega
                    simp [this]
                  go_wp2_with fail
                  refine Calls.mono (all_calls K hlK (LL.take (k + 1)) hLLt (by omega) n W4 _ rfl (T6.sortN hn1 hn2)) ?_
                  rintro e W5 ⟨v1, rfl, hB5, hv1⟩
                  have T7 := T6.below hB5
                  have r1 := rS_read hv1
                  have hT1 := rS_typed3 hv1
                  obtain ⟨ns, hns⟩ : ∃ ns, ns = (sortL K (LL.take (k + 1))).map List.length := ⟨_, rfl⟩
                  rw [← hns] at hT1
                  have hnl : ns.length = M := by rw [hns, List.length_map, sortL_len, hM]
                  have hns2 : ∀ m ∈ ns, m ≤ 1048576 := by
                    rw [hns]; intro m hm; obtain ⟨L', hL', rfl⟩ := List.mem_map.1 hm; exact ((sortL_ok (K := K) hLLt).2 L' hL').1
                  obtain ⟨a1, c1, rfl⟩ := hT1.slice
                  rw [hnl] at hT1 r1 ⊢
                  clear hv1 hns
                  obtain ⟨dk, dl, hbw, hdk, hdl⟩ := T7.D
                  obtain ⟨ka5, kc5, rfl⟩ := slice_form2 hdk
                  obtain ⟨la5, lc5, rfl⟩ := slice_form2 hdl
                  rw [rcL_len, ← hM] at hdl hbw
                  rw [kc_len] at hdk hbw
                  have hdoc : DocC n K (LL.take (k + 1)) W5 (OwnO (fun b => b = bw) sb ta2) (.agg #[.int .i64 (n : Int), .slice ka5 K.length kc5, .slice la5 M lc5]) := ⟨_, _, rfl, hdk, hdl⟩
                  have q0 : W5.cell? ⟨bw, 0, none⟩ = some (.int .i64 (n : Int)) := by simp [World.cell?, hbw]
                  have q1 : W5.cell? ⟨bw, 1, none⟩ = some (.slice ka5 K.length kc5) := by simp [World.cell?, hbw]
                  have q2 : W5.cell? ⟨bw, 2, none⟩ = some (.slice la5 M lc5) := by simp [World.cell?, hbw]
                  clear hbw hdk hdl hM
                  go_wp2_with fail
                  refine Calls.mono (dRows_calls hlK hLLt T7.own_lt hdoc) ?_
                  rintro e W6 ⟨v2, rfl, r2, hB6⟩
                  clear q0 q1 q2 hdoc
                  go_wp2_with fail
                  refine Calls.mono (same_calls (sortL_ok (K := K) hLLt) (cv_on r1 hB6) r2) ?_
                  rintro e W7 ⟨rfl, hB7⟩
                  rw [decide_eq_true rfl]
                  have hB8 : Below W4.heap.size W4 W7 := hB5.trans ((hB6.trans (hB7.mono hB6.size)).mono hB5.size)
                  have hT2 := (hT1.below hB6).below hB7
                  clear T7 r1 r2 hT1 hB5 hB6 hB7
                  go_wp2_with fail
                  go_loopw [16] (fun i wq => ∃ I : Nat, i = .int .i64 I ∧ I ≤ M ∧ Below W4.heap.size W4 wq ∧ TRows3 W4.heap.size ns wq (.slice a1 M c1)) (fun i _ => M - (intOf i).toNat)
                  case atStart => exact ⟨0, rfl, by omega, hB8, hT2⟩
                  case round =>
                    clear hB8 hT2
                    obtain ⟨I, rfl, hI, hB8, hT2⟩ := hrel
                    by_cases hIM : I < M
                    · have hIMi : (I : Int) < (M : Int) := by omega
                      obtain ⟨m, hm⟩ : ∃ m, ns[I]? = some m := ⟨_, List.getElem?_eq_getElem (by omega)⟩
                      have hmm := hns2 m (List.mem_of_getElem? hm)
                      go_wp2_with fail
                      go_loopw [17] (fun j wq => ∃ J : Nat, j = .int .i64 J ∧ J ≤ m ∧ Below W4.heap.size W4 wq ∧ TRows3 W4.heap.size ns wq (.slice a1 M c1)) (fun j _ => m - (intOf j).toNat)
                      case atStart => exact ⟨0, rfl, by omega, hB8, hT2⟩
                      case round =>
                        clear hB8 hT2
                        obtain ⟨J2, rfl, hJ2, hB8, hT2⟩ := hrel
                        obtain ⟨b2, o2, a2, c2, rfl, hcell, hrow⟩ := hT2.at hm
                        by_cases hjm : J2 < m
                        · have hjmi : (J2 : Int) < (m : Int) := by omega
                          obtain ⟨g, z0, z1, s2, rfl, _, hlo, hgl, hc0, hc1, hc2, hf⟩ := hrow.at hjm
                          have hf0 := hf (J2 * 3)
                          have hf1 := hf (J2 * 3 + 1)
                          have hf2 := hf (J2 * 3 + 2)
                          go_wp2_with fail
                          exact ⟨⟨J2 + 1, rfl, hjm, ((hB8.setCell hlo _).setCell hlo _).setCell hlo _, hT2.set hc0 hc1 hc2⟩, by simp [intOf]; omega⟩
                        · have hjmi : ¬ (J2 : Int) < (m : Int) := by omega
                          go_wp2_with fail
                          exact ⟨⟨I + 1, rfl, hIM, hB8, hT2⟩, by simp [intOf]; omega⟩
                    · have hIMi : ¬ (I : Int) < (M : Int) := by omega
                      go_wp2_with fail
                      exact ⟨⟨k + 1, ta2, by simp, by omega, T6.below hB8⟩, by simp [intOf]; omega⟩
    · have e : k = LL.length := by omega
      subst e
      rw [List.take_length] at T
      have hlti : ¬ (LL.length : Int) < (LL.length : Int) := by omega
      go_wp2_with fail
      refine Calls.mono (all_calls K hlK LL hLL (by omega) n wr _ rfl (T.sortN hn1 hn2)) ?_
      rintro e W5 ⟨v1, rfl, hB5, hv1⟩
      have T5 := T.below hB5
      have r1 := rS_read hv1
      clear T hB5 hv1
      obtain ⟨a1, c1, rfl⟩ := slice_form2 r1
      go_wp2_with fail
      refine Calls.mono (live_calls W5) ?_
      rintro e W6 ⟨rfl, hB6⟩
      have T6 := T5.below hB6
      have r1 := cv_on r1 hB6
      clear T5 hB6
      obtain ⟨dk, dl, hbw, hdk, hdl⟩ := T6.D
      obtain ⟨ka5, kc5, rfl⟩ := slice_form2 hdk
      obtain ⟨la5, lc5, rfl⟩ := slice_form2 hdl
      have hdoc : DocC n K LL W6 (OwnO (fun b => b = bw) sb ta) (.agg #[.int .i64 (n : Int), .slice ka5 (kc K).length kc5, .slice la5 (rcL LL).length lc5]) := ⟨_, _, rfl, hdk, hdl⟩
      have q0 : W6.cell? ⟨bw, 0, none⟩ = some (.int .i64 (n : Int)) := by simp [World.cell?, hbw]
      have q1 : W6.cell? ⟨bw, 1, none⟩ = some (.slice ka5 (kc K).length kc5) := by simp [World.cell?, hbw]
      have q2 : W6.cell? ⟨bw, 2, none⟩ = some (.slice la5 (rcL LL).length lc5) := by simp [World.cell?, hbw]
      clear hbw hdk hdl
      go_wp2_with fail
      refine Calls.mono (dRows_calls hlK hLL T6.own_lt hdoc) ?_
      rintro e W7 ⟨v2, rfl, r2, hB7⟩
      have T7 := T6.below hB7
      clear q0 q1 q2 hdoc
      go_wp2_with fail
      refine Calls.mono (same_calls (sortL_ok (K := K) hLL) (cv_on r1 hB7) r2) ?_
      rintro e W8 ⟨rfl, hB8⟩
      rw [decide_eq_true rfl]
      have T8 := T7.below hB8
      go_wp2_with fail
      go_ret
      exact ⟨rfl, T8.hB⟩
end Go.Proofs.Ytdgjcdhomfhfpaa
namespace Go.Proofs.Ytdgjcdhomfhfpaa
open Go.RowKit Go.ChangeShapes Go.WideShapes Go.IntWalk
set_option linter.unusedSimpArgs false
set_option linter.unusedVariables false
section
variable {H : Type} {enc : TypeId × Value → H} {P : Program} {W : World}
theorem slice_cells2 {t e : TypeId} (ht : P.underlying t = some (.slice e)) (hpos : 0 < P.cellsOf e) (Q : List CV → DataW H → Prop) {fuel : Nat}
    (hel : ∀ n, n < fuel → ∀ cs y, DataW.trod enc P W 0 (fun _ => true) true n e cs = some y → ∃ el : List CV, CVRs W (fun _ => False) el cs ∧ Q el y.1)
    {v : Value} {x : DataW H × List MemPlace} (h : DataW.trod enc P W 0 (fun _ => true) true fuel t [v] = some x) :
    ∃ (els : List (List CV)) (ds : List (DataW H)), CVR W (fun _ => False) (.vs els) v ∧ els.length ≤ maxLen ∧ ds.length = els.length ∧ (∀ (i : Nat) (el : List CV) (d : DataW H), els[i]? = some el → ds[i]? = some d → Q el d) ∧ Rows.uptoBulkAll ds + 1 ≤ Rows.uptoBulk x.1 := by
  rcases DataW.trod_slice ht h with ⟨h0, rfl⟩ | ⟨a, len, cap, elems, rest, n, hfu, hv, rfl, hb, hl, hm, hlen, hx, hsp, _⟩
  · simp only [List.cons.injEq, and_true] at h0
    subst h0
    exact ⟨[], [], .nil _, Nat.zero_le _, rfl, fun i el d hi => by simp at hi, by simp [Rows.uptoBulk, Rows.uptoBulkAll]⟩
  · simp only [List.cons.injEq, and_true] at hv
    subst hv
    subst hlen
    have bulk : Rows.uptoBulkAll (elems.map (·.1)) + 1 ≤ Rows.uptoBulk (.slice (elems.map (·.1)) (rest.map (·.1)) : DataW H) := by
      simp only [Rows.uptoBulk]; omega
    by_cases hc0 : cap = 0
    · have hz : elems.length = 0 := by omega
      have hz' := List.length_eq_zero_iff.1 hz
      subst hz' hc0
      exact ⟨[], [], .nil _, Nat.zero_le _, rfl, fun i el d hi => by simp at hi, by simpa using bulk⟩
    have each : ∀ i, i < elems.length → ∃ q : List CV × List Value, W.cells? 0 (a.add (i * P.cellsOf e)) (P.cellsOf e) = some q.2 ∧ CVRs W (fun _ => False) q.1 q.2 ∧ ∃ y, elems[i]? = some y ∧ Q q.1 y.1 := fun i hi => by
      have h1 := hx i hi
      rw [List.getElem?_eq_getElem hi] at h1
      obtain ⟨cs', h2, h3⟩ := Option.bind_eq_some_iff.1 h1
      obtain ⟨el, h4, h5⟩ := hel n (by omega) _ _ h3
      exact ⟨(el, cs'), h2, h4, _, List.getElem?_eq_getElem hi, h5⟩
    obtain ⟨q, hq⟩ := Go.Deep.choose_lt each
    have hl1 : ((List.range elems.length).map fun i => (q i).1).length = elems.length := by simp
    have hin : ∀ (i : Nat) (el : List CV), ((List.range elems.length).map fun i => (q i).1)[i]? = some el → i < elems.length ∧ el = (q i).1 := fun i el hi => by
      by_cases h : i < elems.length
      · rw [List.getElem?_map, List.getElem?_range h] at hi
        simp only [Option.map_some, Option.some.injEq] at hi
        exact ⟨h, hi.symm⟩
      · rw [List.getElem?_eq_none (by simp; omega)] at hi
        cases hi
    have hcl : ∀ i, i < elems.length → (q i).1.length = P.cellsOf e ∧ (q i).2.length = P.cellsOf e := fun i hi => by
      obtain ⟨h1, h2, _⟩ := hq i hi
      obtain ⟨_, h3, _⟩ := World.cells?_some h1
      exact ⟨by rw [CVRs.len h2, h3], h3⟩
    have spot_of : ∀ k cs', k = 0 → W.cells? 0 (a.add k) (P.cellsOf e) = some cs' → a.spot = none := fun k cs' hk h1 => by
      subst hk
      obtain ⟨_, h3, h4⟩ := World.cells?_some h1
      have h5 := h4 0 hpos
      rw [List.getElem?_eq_getElem (by omega)] at h5
      have := World.cell?_spot h5
      simpa [Addr.add] using this
    have hspot : a.spot = none := by
      by_cases h0 : elems.length = 0
      · obtain ⟨h1, h2⟩ := hsp rfl
        have h3 := h2 0 (by omega)
        rw [List.getElem?_eq_getElem (by omega)] at h3
        obtain ⟨cs', h4, _⟩ := Option.bind_eq_some_iff.1 h3
        exact spot_of _ _ (by rw [h0]; simp) h4
      · exact spot_of _ _ (by simp) (hq 0 (by omega)).1
    refine ⟨(List.range elems.length).map fun i => (q i).1, elems.map (·.1), ?_, by rw [hl1]; omega, by simp, fun i el d hi hd => ?_, bulk⟩
    · obtain ⟨b, o, spot⟩ := a
      have hspot : spot = none := hspot
      subst hspot
      have hc := CVR.vs (w := W) (X := fun _ => False) ((List.range elems.length).map fun i => (q i).1) b o (P.cellsOf e) cap (fun i f => ((q i).2[f]?).getD default)
        (fun el hel => by
          simp only [List.mem_map, List.mem_range] at hel
          obtain ⟨i, hi, rfl⟩ := hel
          exact (hcl i hi).1)
        (by rw [hl1]; exact hl)
        (fun i el hi f cv hf => by
          obtain ⟨hj, rfl⟩ := hin i el hi
          have hf2 : f < P.cellsOf e := by
            rw [← (hcl i hj).1]
            exact (List.getElem?_eq_some_iff.1 hf).1
          obtain ⟨h1, h2, _⟩ := hq i hj
          obtain ⟨_, h3, h4⟩ := World.cells?_some h1
          have h5 := h4 f hf2
          rw [Go.WideShapes.add_plain, Go.WideShapes.add_plain, List.getElem?_eq_getElem (by omega)] at h5
          refine ⟨fun h => h, ?_⟩
          rw [h5, List.getElem?_eq_getElem (by omega)]; rfl)
        (fun i el hi f cv hf => by
          obtain ⟨hj, rfl⟩ := hin i el hi
          obtain ⟨_, h2, _⟩ := hq i hj
          obtain ⟨r, hr, hv⟩ := h2.at f cv hf
          rw [hr]; exact hv)
      rwa [hl1] at hc
    · obtain ⟨hj, rfl⟩ := hin i el hi
      obtain ⟨_, _, y, hy, hQ⟩ := hq i hj
      rw [List.getElem?_map, hy] at hd
      simp only [Option.map_some, Option.some.injEq] at hd
      subst hd
      exact hQ
theorem bulk_at : ∀ {ds : List (DataW H)} {i : Nat} {d : DataW H}, ds[i]? = some d → Rows.uptoBulk d ≤ Rows.uptoBulkAll ds
  | [], i, d, h => by simp at h
  | e :: ds, 0, d, h => by
    simp only [List.getElem?_cons_zero, Option.some.injEq] at h
    subst h
    simp only [Rows.uptoBulkAll]; omega
  | e :: ds, i + 1, d, h => by
    have := bulk_at (ds := ds) (i := i) (by simpa using h)
    simp only [Rows.uptoBulkAll]; omega
theorem bulk_pos (d : DataW H) : 1 ≤ Rows.uptoBulk d := by
  cases d with
  | lit l => cases l <;> simp [Rows.uptoBulk]
  | nil => simp [Rows.uptoBulk]
  | ptr d => simp [Rows.uptoBulk]
  | slice a b => simp [Rows.uptoBulk]
  | agg a => simp [Rows.uptoBulk]
  | iface t d => simp [Rows.uptoBulk]
  | map es => simp [Rows.uptoBulk]
  | held h => simp [Rows.uptoBulk]
theorem bulk_len : ∀ (ds : List (DataW H)), ds.length ≤ Rows.uptoBulkAll ds
  | [] => by simp
  | d :: ds => by
    have h1 := bulk_len ds
    have h2 := bulk_pos d
    simp only [Rows.uptoBulkAll, List.length_cons]; omega
theorem val_cells2 {t : TypeId} {f0 f1 f2 : Field} (ht : P.underlying t = some (.struct #[f0, f1, f2])) (ct : P.cellsOf t = 3) (o0 : f0.offset = 0) (o1 : f1.offset = 1) (o2 : f2.offset = 2)
    (c0 : P.cellsOf f0.type = 1) (c1 : P.cellsOf f1.type = 1) (c2 : P.cellsOf f2.type = 1) (h0 : P.underlying f0.type = some (.int .i64)) (h1 : P.underlying f1.type = some (.int .i64)) (h2 : P.underlying f2.type = some .string)
    (n : Nat) (cs : List Value) (x : DataW H × List MemPlace) (h : DataW.trod enc P W 0 (fun _ => true) true n t cs = some x) :
    ∃ el : List CV, CVRs W (fun _ => False) el cs ∧ ∃ v : V3, el = [.v (.int .i64 v.1), .v (.int .i64 v.2.1), .v (.string (bs v.2.2))] ∧ I64 v.1 ∧ I64 v.2.1 ∧ v.2.2.length ≤ Rows.uptoBulk x.1 := by
  obtain ⟨xs, k, hx1, hx2, hl, hxl, hf⟩ := DataW.trod_struct ht h
  rw [ct] at hl
  match cs, hl, xs, hxl with
  | [a, b, c], _, [y0, y1, y2], _ =>
    have g0 := hf 0 f0 rfl
    have g1 := hf 1 f1 rfl
    have g2 := hf 2 f2 rfl
    simp [o0, o1, o2, c0, c1, c2] at g0 g1 g2
    obtain ⟨z0, e0, _, w0⟩ := DataW.trod_int h0 g0
    obtain ⟨z1, e1, _, w1⟩ := DataW.trod_int h1 g1
    obtain ⟨s, e2, hy2, w2⟩ := DataW.trod_string h2 g2
    simp only [List.cons.injEq, and_true] at e0 e1 e2
    subst e0 e1 e2
    refine ⟨[.v (.int .i64 z0), .v (.int .i64 z1), .v (.string s)], ?_, (z0, z1, s.data.toList), ?_, wf_i64 w0, wf_i64 w1, ?_⟩
    · simp only [CVRs]
      exact ⟨.v _ rfl, .v _ rfl, .v _ rfl, trivial⟩
    · show _ = [_, _, CV.v (.string (bs s.data.toList))]
      rw [← bs_of s]
    · subst hx2 hy2
      show s.data.toList.length ≤ _
      simp only [List.map_cons, List.map_nil, Rows.uptoBulk, Rows.uptoBulkAll]
      omega
end
theorem cells_one {W : World} {v : Value} {t e : TypeId} (ht : Try.prog.underlying t = some (.slice e)) (hval : Value.okWide Try.prog W .any 0 t v) : v.cells.toList = [v] := by
  unfold Value.okWide at hval
  rw [ht] at hval
  simp only [] at hval
  cases v <;> first | rfl | (exfalso; unfold Cell.okWide Cell.ok at hval; rw [ht] at hval; exact hval)
def ValB (n : Nat) (v : V3) : Prop := I64 v.1 ∧ I64 v.2.1 ∧ v.2.2.length ≤ n
def ValsB (n : Nat) (L : List V3) : Prop := L.length ≤ n ∧ ∀ v ∈ L, ValB n v
theorem ValsB.mono {n m : Nat} {L : List V3} (h : ValsB n L) (hm : n ≤ m) : ValsB m L := ⟨Nat.le_trans h.1 hm, fun v hv => ⟨(h.2 v hv).1, (h.2 v hv).2.1, Nat.le_trans (h.2 v hv).2.2 hm⟩⟩
section
variable {H : Type}
theorem vals_of2 : ∀ {els : List (List CV)} {ds : List (DataW H)} (_ : ds.length = els.length) (_ : ∀ (i : Nat) (el : List CV) (d : DataW H), els[i]? = some el → ds[i]? = some d → ∃ v : V3, el = [.v (.int .i64 v.1), .v (.int .i64 v.2.1), .v (.string (bs v.2.2))] ∧ I64 v.1 ∧ I64 v.2.1 ∧ v.2.2.length ≤ Rows.uptoBulk d),
    ∃ L : List V3, els = vc L ∧ ∀ v ∈ L, ValB (Rows.uptoBulkAll ds) v
  | [], ds, _, _ => ⟨[], rfl, by simp⟩
  | el :: els, [], hl, _ => by simp at hl
  | el :: els, d :: ds, hl, h => by
    obtain ⟨v, rfl, h1, h2, h3⟩ := h 0 el d rfl rfl
    obtain ⟨L, rfl, hL⟩ := vals_of2 (els := els) (ds := ds) (by simpa using hl) (fun i el' d' hi hd => h (i + 1) el' d' (by simpa using hi) (by simpa using hd))
    refine ⟨v :: L, rfl, fun u hu => ?_⟩
    simp only [Rows.uptoBulkAll]
    rcases List.mem_cons.1 hu with rfl | hu
    · exact ⟨h1, h2, by omega⟩
    · obtain ⟨g1, g2, g3⟩ := hL u hu
      exact ⟨g1, g2, by omega⟩
theorem rows_of2 : ∀ {els : List (List CV)} {ds : List (DataW H)} (_ : ds.length = els.length) (_ : ∀ (i : Nat) (el : List CV) (d : DataW H), els[i]? = some el → ds[i]? = some d → ∃ L : List V3, el = [.vs (vc L)] ∧ ValsB (Rows.uptoBulk d) L),
    ∃ LL : List (List V3), els = rcL LL ∧ ∀ L ∈ LL, ValsB (Rows.uptoBulkAll ds) L
  | [], ds, _, _ => ⟨[], rfl, by simp⟩
  | el :: els, [], hl, _ => by simp at hl
  | el :: els, d :: ds, hl, h => by
    obtain ⟨L, rfl, h1⟩ := h 0 el d rfl rfl
    obtain ⟨LL, rfl, hL⟩ := rows_of2 (els := els) (ds := ds) (by simpa using hl) (fun i el' d' hi hd => h (i + 1) el' d' (by simpa using hi) (by simpa using hd))
    refine ⟨L :: LL, rfl, fun u hu => ?_⟩
    simp only [Rows.uptoBulkAll]
    rcases List.mem_cons.1 hu with rfl | hu
    · exact h1.mono (by omega)
    · exact (hL u hu).mono (by omega)
end
set_option maxRecDepth 100000 in
theorem row_trod2 {H : Type} {enc : TypeId × Value → H} {W : World} (n : Nat) (cs : List Value) (x : DataW H × List MemPlace) (h : DataW.trod enc Try.prog W 0 (fun _ => true) true n 34 cs = some x) :
    ∃ el : List CV, CVRs W (fun _ => False) el cs ∧ ∃ L : List V3, el = [.vs (vc L)] ∧ ValsB (Rows.uptoBulk x.1) L := by
  have hone : ∃ v, cs = [v] := by
    rcases Go.Deep.open_slice Try.underlying34 h with ⟨h0, _⟩ | ⟨a, len, cap, m, n, D, Pl, hv, _⟩
    · exact ⟨_, h0⟩
    · exact ⟨_, hv⟩
  obtain ⟨v, rfl⟩ := hone
  obtain ⟨els, ds, h1, h2, h3, h4, h5⟩ := slice_cells2 Try.underlying34 (of_decide_eq_true (by kernel_rfl)) (fun el d => ∃ v : V3, el = [.v (.int .i64 v.1), .v (.int .i64 v.2.1), .v (.string (bs v.2.2))] ∧ I64 v.1 ∧ I64 v.2.1 ∧ v.2.2.length ≤ Rows.uptoBulk d)
    (fun m _ cs' y hy => val_cells2 Try.underlying38 (by kernel_rfl) rfl rfl rfl (by kernel_rfl) (by kernel_rfl) (by kernel_rfl) Try.underlying3 Try.underlying2 Try.underlying9 m cs' y hy) h
  obtain ⟨L, rfl, hL⟩ := vals_of2 h3 h4
  have hb := bulk_len ds
  rw [h3, vc_len] at hb
  refine ⟨[.vs (vc L)], ?_, L, rfl, by omega, fun v hv => ?_⟩
  · simp only [CVRs]
    exact ⟨h1, trivial⟩
  · obtain ⟨g1, g2, g3⟩ := hL v hv
    exact ⟨g1, g2, by omega⟩
set_option maxRecDepth 100000 in
theorem rows_arg2 {H : Type} {enc : TypeId × Value → H} {W : World} {v : Value} {d : DataW H} {ps : List MemPlace} (hval : Value.okWide Try.prog W .any 0 23 v) (h : DataW.Trod enc Try.prog W 0 (fun _ => true) true 23 v d ps) :
    ∃ LL : List (List V3), CVR W (fun _ => False) (.vs (rcL LL)) v ∧ (∀ L ∈ LL, ValsB (Rows.uptoBulk d) L) ∧ LL.length ≤ Rows.uptoBulk d := by
  obtain ⟨fuel, h⟩ := h
  rw [cells_one Try.underlying23 hval] at h
  obtain ⟨els, ds, h1, h2, h3, h4, h5⟩ := slice_cells2 Try.underlying23 (of_decide_eq_true (by kernel_rfl)) (fun el d => ∃ L : List V3, el = [.vs (vc L)] ∧ ValsB (Rows.uptoBulk d) L) (fun m _ cs' y hy => row_trod2 m cs' y hy) h
  have h5 : Rows.uptoBulkAll ds + 1 ≤ Rows.uptoBulk d := h5
  obtain ⟨LL, rfl, hL⟩ := rows_of2 h3 h4
  have hb := bulk_len ds
  rw [h3, rcL_len] at hb
  exact ⟨LL, h1, fun L hm => (hL L hm).mono (by omega), by omega⟩
set_option maxRecDepth 100000 in
theorem keys_arg2 {H : Type} {enc : TypeId × Value → H} {W : World} {v : Value} {d : DataW H} {ps : List MemPlace} (hval : Value.okWide Try.prog W .any 0 22 v) (h : DataW.Trod enc Try.prog W 0 (fun _ => true) true 22 v d ps) :
    ∃ K : List K3, CVR W (fun _ => False) (.vs (kc K)) v ∧ K.length ≤ Rows.uptoBulk d := by
  obtain ⟨fuel, h⟩ := h
  rw [cells_one Try.underlying22 hval] at h
  obtain ⟨els, ds, h1, h2, h3, h4, h5⟩ := slice_cells2 Try.underlying22 (of_decide_eq_true (by kernel_rfl)) (fun el _ => ∃ k : K3, el = [.v (.int .i64 k.1), .v (.int .i64 k.2.1), .v (.bool k.2.2)])
    (fun m _ cs' y hy => key_cells Try.underlying55 (by kernel_rfl) rfl rfl rfl (by kernel_rfl) (by kernel_rfl) (by kernel_rfl) Try.underlying3 Try.underlying3 Try.underlying4 m cs' y hy) h
  have h5 : Rows.uptoBulkAll ds + 1 ≤ Rows.uptoBulk d := h5
  obtain ⟨K, rfl⟩ := keys_of fun el hel => by
    obtain ⟨i, hi⟩ := List.getElem?_of_mem hel
    have hlt := (List.getElem?_eq_some_iff.1 hi).1
    exact h4 i el (ds[i]'(by omega)) hi (List.getElem?_eq_getElem _)
  have hb := bulk_len ds
  rw [h3, kc_len] at hb
  exact ⟨K, h1, by omega⟩
set_option maxRecDepth 100000 in
/-- an array of three bytes -/
theorem arr3_arg {H : Type} {enc : TypeId × Value → H} {W : World} {v : Value} {d : DataW H} {ps : List MemPlace} (hval : Value.okWide Try.prog W .any 0 45 v) (h : DataW.Trod enc Try.prog W 0 (fun _ => true) true 45 v d ps) :
    ∃ a b c : Int, v = .agg #[.int .u8 a, .int .u8 b, .int .u8 c] ∧ (Lit.int .u8 a).wf = true ∧ (Lit.int .u8 b).wf = true ∧ (Lit.int .u8 c).wf = true := by
  have hu := Try.underlying45
  have hc : Try.prog.cellsOf 45 = 3 := by kernel_rfl
  have hc1 : Try.prog.cellsOf 5 = 1 := by kernel_rfl
  have h8 := Try.underlying5
  simp only [Value.okWide, hu] at hval
  obtain ⟨cs, rfl, hsz, _⟩ := hval
  obtain ⟨c0, c1, c2, rfl⟩ := Go.Joins.array3 (hsz.trans hc)
  obtain ⟨fuel, hf⟩ := h
  cases fuel with
  | zero => simp [DataW.trod] at hf
  | succ m =>
    rw [DataW.trod_step] at hf
    unfold DataW.trodStep at hf
    simp only [hu, Value.cells] at hf
    rw [if_pos (by rw [hc]; rfl)] at hf
    simp only [Option.map_eq_some_iff] at hf
    obtain ⟨ys, hy, _⟩ := hf
    have hr : List.range 3 = [0, 1, 2] := rfl
    rw [hr] at hy
    simp only [List.mapM_cons, List.mapM_nil, bind, Option.bind_eq_some_iff, pure, Option.some.injEq, hc1] at hy
    obtain ⟨y0, g0, _, ⟨y1, g1, _, ⟨y2, g2, _⟩, _⟩, _⟩ := hy
    simp at g0 g1 g2
    obtain ⟨z0, e0, _, w0⟩ := DataW.trod_int h8 g0
    obtain ⟨z1, e1, _, w1⟩ := DataW.trod_int h8 g1
    obtain ⟨z2, e2, _, w2⟩ := DataW.trod_int h8 g2
    simp only [List.cons.injEq, and_true] at e0 e1 e2
    subst e0 e1 e2
    exact ⟨z0, z1, z2, rfl, w0, w1, w2⟩
end Go.Proofs.Ytdgjcdhomfhfpaa
