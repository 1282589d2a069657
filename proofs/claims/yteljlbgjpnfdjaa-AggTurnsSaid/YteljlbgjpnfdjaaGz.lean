/- Sums and differences of two words: math/bits.Add64, Sub64, which the model answers for. Conditions: words of 64 bits, a carry of 0 or 1. Go's copy of elements of several cells. Conditions: the cells are there and may be written. slices.Insert of one value into a list of values: at the end, a new row. Conditions: the list holds less than 2^40 values. slices.Insert of one value into a list of values: where there is room. Conditions: the list holds less than 2^40 values. slices.Insert of one value into a list of values: inside, no room: a new row. Conditions: the list holds less than 2^40 values. slices.Insert of one value into a row of values that its caller owns: what the row holds then. Conditions: the place is within the row; the row holds less than 2^40 values. math/bits.Div64: a number of 128 bits by a small one. Conditions: the divisor is above the higher word and below 2^32. Aggregates: the document's answer as plain functions of the values that came, and that the document's code computes it. Conditions: values that a machine can hold, at most 2^20 of them. Aggregates: the document's sums and averages. Conditions: values that a machine can hold, at most 2^20 of them. Aggregates: the document's code for averages, results, and all at once. Conditions: values that a machine can hold, at most 2^20 of them. Aggregates: where a value stands among those that a distinct one has; what it has then. Conditions: values that a machine can hold, at most 2^20 of them. Aggregates: all values at once; what one more value does to a sum. Conditions: values that a machine can hold, at most 2^20 of them. Aggregates: the average out of two words; the best of values. Conditions: values that a machine can hold, at most 2^20 of them. Aggregates: agg.Of comes to the document's answer, for each aggregate. Conditions: values that a machine can hold, at most 2^20 of them. Aggregates: what must be whatever is asked; names that are none. Conditions: values that a machine can hold, at most 2^20 of them. -/
import Derived.Test.YteljlbgjpnfdjaaAbW
import Derived.Test.YteljlbgjpnfdjaaEz
import Derived.Test.YteljlbgjpnfdjaaAbN
import Derived.Shelf.Spec.BitsCarry
import Derived.Laws.IdiomCopy
import Derived.Laws.Append
import Derived.Shelf.Spec.SlicesInsert
import Derived.OwnWalk
import Derived.Shelf.Spec.SlicesInsertGrow
import Derived.Test.YteljlbgjpnfdjaaAbY
import Derived.Test.YteljlbgjpnfdjaaShelf
import Derived.Lib.ItoaNum
namespace Go.Proofs.Yteljlbgjpnfdjaa
open Go.RowKit
set_option linter.unusedSimpArgs false
set_option linter.unusedVariables false

abbrev uD (n : Int) : DV := .c (.v (.int .u64 n))
theorem cells3u {w : World} {X : Nat → Prop} {a b c : Value} {vs : List Value} (h : DVRs w X [.c (.v a), .c (.v b), .c (.v c)] vs) : vs = [a, b, c] := by
  match vs, h with
  | x :: r, h =>
    have h' := h
    simp only [DVRs, DVR] at h
    have : r = [b, c] := cells2 (w := w) (X := X) (by
      have h2 : DVRs w X [.c (.v b), .c (.v c)] r := h'.2
      exact h2)
    subst this
    obtain ⟨h1, _⟩ := h
    cases h1
    rfl
  | [], h => simp [DVRs] at h
/-- a function that the model answers for -/
theorem fnC_ext3 {P : Program} {f : FuncId} {fn : Func} {e : Array Value → Sem Value} (hf : P.funcs[f]? = some fn) (hname : (fn.name == "runtime.NumGoroutine") = false) (hb : fn.body.isNone = true) (hn : Extern.findNext fn = none) (he : Extern.find fn = some e)
    {a b c x y : Value} (hx : x.oneCell' = true) (hy : y.oneCell' = true) (h : ∀ w, (e #[a, b, c]).run P w = .ok (.tuple #[x, y]) w) : FnC P f [.c (.v a), .c (.v b), .c (.v c)] (.tup [.c (.v x), .c (.v y)]) := fun w X vs _ _ hvs => by
  rw [cells3u hvs]
  refine Or.inr ⟨.tuple #[x, y], w, ?_, .tuple #[x, y], rfl, ?_, Below.refl _ _⟩
  · rw [run_callFunc_extern hf hname hb hn he, h]
    rfl
  · simp only [DVR]
    refine ⟨_, rfl, ?_⟩
    simp only [DVRs, DVR]
    exact ⟨.v _ hx, .v _ hy, trivial⟩
theorem c_Add64 (x y c : Int) (hx : 0 ≤ x) (hy : 0 ≤ y) (hc : 0 ≤ c) (hc1 : c ≤ 1) : FnC Try.prog 68 [uD x, uD y, uD c] (.tup [uD ((x + y + c) % 18446744073709551616), uD ((x + y + c) / 18446744073709551616)]) :=
  fnC_ext3 Try.func68 (by kernel_rfl) (by kernel_rfl) (by kernel_rfl) (e := add64Entry) (by kernel_rfl) rfl rfl fun w => run_add64 x y c hx hy hc hc1 w
theorem c_Sub64 (x y b : Nat) (hb : b ≤ 1) : FnC Try.prog 71 [uD x, uD y, uD b] (.tup [uD ((x + 18446744073709551616 - y - b) % 18446744073709551616 : Nat), uD ((if x < y + b then 1 else 0 : Nat) : Int)]) :=
  fnC_ext3 Try.func71 (by kernel_rfl) (by kernel_rfl) (by kernel_rfl) (e := sub64Entry) (by kernel_rfl) rfl rfl fun w => run_sub64 x y b hb w
end Go.Proofs.Yteljlbgjpnfdjaa
namespace Go.Proofs.Yteljlbgjpnfdjaa
open Go.RowKit
set_option linter.unusedSimpArgs false
set_option linter.unusedVariables false

theorem run_copy_cellsN {P : Program} (w : World) (dT sT ty elem : TypeId) (b o dLen dCap : Nat) (a : Addr) (sLen sCap k n : Nat) (cs : List Value)
    (hu : P.underlying dT = some (.slice elem)) (hs : (P.info? elem).map (·.size) = some k) (hn : Nat.min sLen dLen = n) (hl : cs.length = n * k)
    (hsrc : ∀ j v, cs[j]? = some v → w.cell? (a.add j) = some v) (hc : ∀ j, j < cs.length → (w.cell? ⟨b, o + j, none⟩).isSome = true) (hf : ∀ j, j < cs.length → w.frozen? ⟨b, o + j, none⟩ = false) (h1 : ∀ v ∈ cs, v.oneCell' = true) :
    (Builtin.copy_ #[dT, sT] ty #[.slice (some ⟨b, o, none⟩) dLen dCap, .slice (some a) sLen sCap]).run P w = .ok (goInt n) (w.setCells b o cs) := by
  have hfc := run_firstCells_some (P := P) w k n a sLen sCap cs hl hsrc
  have hst := run_storeCells_cells (P := P) b o cs 0 w (by simpa using hc) (by simpa using hf) h1
  cases hq : P.info? elem with
  | none => simp [hq] at hs
  | some i =>
    have hi : i.size = k := by simpa [hq] using hs
    simp [Builtin.copy_, run_underlying hu, Builtin.lenOf, sizeOf, typeInfo, hq, hi, hn, hfc, hst]
end Go.Proofs.Yteljlbgjpnfdjaa
namespace Go.Proofs.Yteljlbgjpnfdjaa
open Go.Shelf Go.RowKit Go.Lib
set_option linter.unusedSimpArgs false
set_option linter.unusedVariables false

abbrev zV : Value := .agg #[.int .i64 0, .int .i64 0, .string ⟨#[]⟩]
theorem iVal : (Try.prog.info? 33).map (fun i => (i.zero, i.size, i.bytes)) = some (some zV, 3, 32) := by kernel_rfl

set_option maxHeartbeats 4000000 in
set_option maxRecDepth 100000 in
theorem ins_end_grow (base : Option Addr) (n c vb voff vc : Nat) (cs vs : List Value) (w : World) (hnc : n ≤ c) (hroom : c < n + 1) (hbig : (n + 1) * 32 ≤ 140737488355328)
    (hcl : cs.length = n * 3) (hvl : vs.length = 3) (hnil : base = none → n = 0)
    (hcs : ∀ a, base = some a → ∀ j v, cs[j]? = some v → w.cell? (a.add j) = some v)
    (hvs : ∀ j v, vs[j]? = some v → w.cell? ⟨vb, voff + j, none⟩ = some v) (h1v : ∀ v ∈ vs, v.oneCell' = true) :
    Calls Try.prog 24 #[.slice base n c, .int .i64 n, .slice (some ⟨vb, voff, none⟩) 1 vc] w fun e w' =>
      e = .returned (.slice (some ⟨w.heap.size, 0, none⟩) (n + 1) (grownCap w (n + 1) c 33)) ∧
      w' = w.drew.alloc (.cells ((cs ++ vs).toArray ++ Builtin.zeroCells zV.cells (grownCap w (n + 1) c 33 - (n + 1))) 33) := by
  obtain ⟨i0, hi0, hz0, hzs, hzb⟩ := info_parts iVal
  have ht := Try.underlying22
  have hsrc : Src Try.prog i0.size 22 (.slice (some ⟨vb, voff, none⟩) 1 vc) 1 vs w := by
    rw [hzs]
    exact Src.ofSlice w ht ⟨vb, voff, none⟩ 1 vc vs (by omega) (fun j u hj => by rw [Addr.add_lit]; exact hvs j u hj) h1v
  have hold : (Builtin.firstCells i0.size n (.slice base n c)).run Try.prog w.drew = .ok cs.toArray w.drew := by
    rw [hzs]
    cases base with
    | none =>
      have h0 := hnil rfl
      subst h0
      rw [List.length_eq_zero_iff.1 (by omega : cs.length = 0)]
      exact run_firstCells_none w.drew 3 0 0 c
    | some a => exact run_firstCells_some w.drew 3 n a n c cs (by omega) (fun j v hj => hcs a rfl j v hj)
  have hrun : ∀ ty, (Builtin.append_ #[22, 22] ty #[.slice base n c, .slice (some ⟨vb, voff, none⟩) 1 vc]).run Try.prog w = _ := fun ty =>
    run_append_grow_src w 22 22 ty 33 i0 _ ht hi0 hz0 base n c cs hold _ 1 vs hsrc hroom (by omega) (by rw [hzb]; exact growslice_fits hroom hbig)
  go_enter Try.func24, Try.ntmps24
  cases base with
  | none =>
    have h0 := hnil rfl
    subst h0
    go_wp2_with (at_builtin; refine Lib.wpList_append_run _ rfl _ _ _ _ rfl _ _ rfl rfl _ _ (hrun _) ?_)
    go_ret
    exact ⟨rfl, rfl⟩
  | some a =>
    obtain ⟨ab, ao, asp⟩ := a
    go_wp2_with (at_builtin; refine Lib.wpList_append_run _ rfl _ _ _ _ rfl _ _ rfl rfl _ _ (hrun _) ?_)
    all_goals (go_ret; exact ⟨rfl, rfl⟩)
end Go.Proofs.Yteljlbgjpnfdjaa
namespace Go.Proofs.Yteljlbgjpnfdjaa
open Go.Shelf Go.RowKit Go.Lib
set_option linter.unusedSimpArgs false
set_option linter.unusedVariables false

/-- two rows of two blocks do not overlap; the second one is not marked as text -/
theorem run_overlaps_apart_r {P : Program} (w : World) (tS tR e : TypeId) (ht : P.underlying tS = some (.slice e)) (size : Nat) (hz : ∀ w, (Go.sizeOf e).run P w = .ok size w)
    (a b : Addr) (la ca lb cb : Nat) (hne : a.block ≠ b.block) (tA tB : TypeId) (kA kB : Nat)
    (hsa : w.shape? a.block = some (tA, kA)) (hsb : w.shape? b.block = some (tB, kB)) (hkA : kA ≠ 0)
    (hfb : w.frozen? b = false) (hfe : w.frozen? { block := b.block, off := kB } = false) :
    (Extern.SlicesOverlaps.overlaps #[tS, tS] #[tR] #[.slice (some a) la ca, .slice (some b) lb cb]).run P w = .ok (.bool false) w := by
  have hnb : (a.block != b.block) = true := by simpa using hne
  have hnb' : (a.block == b.block) = false := by simpa using hne
  change Sem.run P (α := Value) (do
    let some t := (#[tS, tS] : Array TypeId)[0]? | stuck "slices.overlaps: no parameter types"
    let .slice elem ← underlying t | stuck "slices.overlaps: slice type expected"
    let size ← sizeOf elem
    match (some a : Option Addr), (some b : Option Addr) with
    | some a, some b =>
      if la = 0 ∨ lb = 0 ∨ size = 0 then pure (Value.bool false)
      else if a.block != b.block && (← frozen a) && (← frozen b) then unsupported .addressObserved
      else do
        if a.block != b.block then do
          noView a; noView b
          if ← mayBeOne a b then return Value.bool ((← choose (.extern "sameAddr.stringBytes" 2)) == 1)
        pure (Value.bool (a.block == b.block && a.off < b.off + lb * size && b.off < a.off + la * size))
    | _, _ => pure (Value.bool false)) w = _
  by_cases h0 : la = 0 ∨ lb = 0 ∨ size = 0
  · simp [run_underlying ht, hz, h0]
  · cases kA with
    | zero => exact absurd rfl hkA
    | succ kA =>
      cases h1 : w.frozen? a <;> cases h2 : w.frozen? { block := a.block, off := kA + 1 } <;>
        simp [run_underlying ht, hz, h0, hnb, hnb', frozen, noView, viewAt, mayBeOne, stringish, shape, Sem.run, hsa, hsb, hfb, hfe, h1, h2]

set_option maxHeartbeats 4000000 in
set_option maxRecDepth 100000 in
theorem ins_end_room (b off n c vb voff vc : Nat) (vs : List Value) (w : World) (hroom : n + 1 ≤ c) (hc63 : c ≤ 9223372036854775807)
    (hvl : vs.length = 3) (hsp : ∀ j, j < 3 → (w.cell? ⟨b, off + n * 3 + j, none⟩).isSome = true) (hfz : ∀ j, j < 3 → w.frozen? ⟨b, off + n * 3 + j, none⟩ = false)
    (hvs : ∀ j v, vs[j]? = some v → w.cell? ⟨vb, voff + j, none⟩ = some v) (h1v : ∀ v ∈ vs, v.oneCell' = true) :
    Calls Try.prog 24 #[.slice (some ⟨b, off, none⟩) n c, .int .i64 n, .slice (some ⟨vb, voff, none⟩) 1 vc] w fun e w' =>
      e = .returned (.slice (some ⟨b, off, none⟩) (n + 1) c) ∧ w' = w.setCells b (off + n * 3) vs := by
  obtain ⟨i0, hi0, hz0, hzs, hzb⟩ := info_parts iVal
  have ht := Try.underlying22
  have hsrc : Src Try.prog i0.size 22 (.slice (some ⟨vb, voff, none⟩) 1 vc) 1 vs w := by
    rw [hzs]
    exact Src.ofSlice w ht ⟨vb, voff, none⟩ 1 vc vs (by omega) (fun j u hj => by rw [Addr.add_lit]; exact hvs j u hj) h1v
  go_enter Try.func24, Try.ntmps24
  go_wp2_with (at_builtin; refine wpList_append_room_src _ rfl _ _ 22 22 rfl 33 i0 ht hi0 b off n c rfl _ rfl 1 vs hsrc hroom (by rw [hvl, hzs]; exact hsp) (by rw [hvl, hzs]; exact hfz) ?_)
  go_ret
  first | exact ⟨rfl, rfl⟩ | exact ⟨rfl, by rw [hzs]⟩

set_option maxHeartbeats 4000000 in
set_option maxRecDepth 100000 in
theorem ins_shift (b off n c i vb voff vc : Nat) (cs vs : List Value) (w : World) (hi : i < n) (hroom : n + 1 ≤ c) (hc63 : c ≤ 9223372036854775807) (hvb : vb ≠ b)
    (hcl : cs.length = n * 3) (hvl : vs.length = 3)
    (hcs : ∀ j v, cs[j]? = some v → w.cell? ⟨b, off + j, none⟩ = some v) (hsp : ∀ j, j < (n + 1) * 3 → (w.cell? ⟨b, off + j, none⟩).isSome = true) (hfz : ∀ j, j < (n + 1) * 3 → w.frozen? ⟨b, off + j, none⟩ = false)
    (hvs : ∀ j v, vs[j]? = some v → w.cell? ⟨vb, voff + j, none⟩ = some v) (h1c : ∀ v ∈ cs, v.oneCell' = true) (h1v : ∀ v ∈ vs, v.oneCell' = true)
    (tA tB : TypeId) (kA kB : Nat) (hsa : w.shape? vb = some (tA, kA)) (hsb : w.shape? b = some (tB, kB)) (hkA : kA ≠ 0) (hfb : w.frozen? ⟨b, off + (i + 1) * 3, none⟩ = false) (hfe : w.frozen? ⟨b, kB, none⟩ = false) :
    Calls Try.prog 24 #[.slice (some ⟨b, off, none⟩) n c, .int .i64 i, .slice (some ⟨vb, voff, none⟩) 1 vc] w fun e w' =>
      e = .returned (.slice (some ⟨b, off, none⟩) (n + 1) c) ∧ w' = (w.drew.setCells b (off + (i + 1) * 3) (cs.drop (i * 3))).setCells b (off + i * 3) vs := by
  have ht := Try.underlying22
  have hz2 : ¬ ((i : Int) = (n : Int)) := by omega
  have mixed := mixedAbW
  have hsz : (Try.prog.info? 33).map (·.size) = some 3 := by
    obtain ⟨i0, hi0, h0, h1, h2⟩ := info_parts iVal
    rw [hi0]; simp [h1]
  have hov : ∀ lb cb, (callFunc 38 #[.slice (some ⟨vb, voff, none⟩) 1 vc, .slice (some ⟨b, off + (i + 1) * 3, none⟩) lb cb]).run Try.prog w = .ok (.value (.bool false)) w := fun lb cb => by
    rw [run_callFunc_extern Try.func38 (by kernel_rfl) (by kernel_rfl) (by kernel_rfl) (e := Extern.SlicesOverlaps.overlaps #[22, 22] #[4]) (by kernel_rfl),
      run_overlaps_apart_r w 22 4 33 ht 3 Try.sizeOf33 ⟨vb, voff, none⟩ ⟨b, off + (i + 1) * 3, none⟩ 1 vc lb cb hvb tA tB kA kB hsa hsb hkA hfb hfe]
    rfl
  have hdl : (cs.drop (i * 3)).length = (n - i) * 3 := by rw [List.length_drop, hcl]; omega
  have hw1 : IntKind.i64.wrap ((i : Int) + 1) = (i : Int) + 1 := by rw [IntKind.wrap_i64]; omega
  have hb1 : (0 : Int) ≤ (i : Int) + 1 := by omega
  have hin : i ≤ n := by omega
  have htn : ((i : Int) + 1).toNat = i + 1 := by omega
  have hb2 : ¬ (c = i + 1) := by omega
  have hb3 : (i : Int) ≤ (n : Int) + 1 := by omega
  have hb4 : ¬ (c = i) := by omega
  have hcp1 : ∀ ty dc sc, (Builtin.copy_ #[22, 22] ty #[.slice (some ⟨b, off + (i + 1) * 3, none⟩) (n - i) dc, .slice (some ⟨b, off + i * 3, none⟩) (n + 1 - i) sc]).run Try.prog w.drew = .ok (goInt ((n - i : Nat) : Int)) (w.drew.setCells b (off + (i + 1) * 3) (cs.drop (i * 3))) := fun ty dc sc =>
    run_copy_cellsN w.drew _ _ ty 33 b (off + (i + 1) * 3) (n - i) dc ⟨b, off + i * 3, none⟩ (n + 1 - i) sc 3 (n - i) (cs.drop (i * 3)) ht hsz (by simp only [Nat.min_def]; split <;> omega) hdl
      (fun j v hj => by rw [Addr.add_lit, Nat.add_assoc]; exact hcs (i * 3 + j) v (by rwa [List.getElem?_drop] at hj))
      (fun j hj => by rw [Nat.add_assoc]; exact hsp _ (by omega)) (fun j hj => by rw [Nat.add_assoc]; exact hfz _ (by omega)) (fun v hv => h1c v (List.mem_of_mem_drop hv))
  obtain ⟨W1, hW1⟩ : ∃ W1, W1 = w.drew.setCells b (off + (i + 1) * 3) (cs.drop (i * 3)) := ⟨_, rfl⟩
  have hsp1 : ∀ k, k < (n + 1) * 3 → (W1.cell? ⟨b, off + k, none⟩).isSome = true := fun k hk => by
    rw [hW1]
    exact isSome_setCells b _ _ _ (fun j hj => by rw [Nat.add_assoc]; exact hsp _ (by omega)) _ (hsp k hk)
  have hcp2 : ∀ (W : World), (∀ x, W.cell? x = W1.cell? x) → (∀ x, W.frozen? x = W1.frozen? x) → ∀ ty dc, (Builtin.copy_ #[22, 22] ty #[.slice (some ⟨b, off + i * 3, none⟩) (n + 1 - i) dc, .slice (some ⟨vb, voff, none⟩) 1 vc]).run Try.prog W = .ok (goInt ((1 : Nat) : Int)) (W.setCells b (off + i * 3) vs) := fun W hWc hWf ty dc =>
    run_copy_cellsN W _ _ ty 33 b (off + i * 3) (n + 1 - i) dc ⟨vb, voff, none⟩ 1 vc 3 1 vs ht hsz (by simp only [Nat.min_def]; split <;> omega) (by omega)
      (fun j v hj => by
        rw [Addr.add_lit, hWc, hW1, World.cell?_setCells_out b _ _ _ _ (fun h _ => absurd h hvb)]
        exact hvs j v hj)
      (fun j hj => by rw [hWc, Nat.add_assoc]; exact hsp1 _ (by omega)) (fun j hj => by rw [hWf, hW1, World.frozen?_setCells, Nat.add_assoc]; exact hfz _ (by omega)) h1v
  rw [← hW1] at hcp1
  go_enter Try.func24, Try.ntmps24
  go_wp2_with (simp only [hov])
  go_region_law_o (refine step_copy_runI rfl _ _ 22 22 rfl _ _ (by simp [Act.eval, Act.put]) (by simp [Act.eval, Act.put]) (hcp1 _ _ _) ?_)
  go_wp2_with (at_builtin; refine wpList_copy_runI _ rfl _ _ 22 22 rfl _ _ rfl rfl (hcp2 _ (fun _ => rfl) (fun _ => rfl) _ _) ?_)
  go_ret
  first | exact ⟨rfl, rfl⟩ | exact ⟨rfl, by rw [hW1]⟩
end Go.Proofs.Yteljlbgjpnfdjaa
namespace Go.Proofs.Yteljlbgjpnfdjaa
open Go.Shelf Go.RowKit Go.Lib
set_option linter.unusedSimpArgs false
set_option linter.unusedVariables false

set_option maxHeartbeats 4000000 in
set_option maxRecDepth 100000 in
theorem ins_grow (b off n c i vb voff vc : Nat) (cs vs : List Value) (w : World) (hi : i < n) (hnc : n ≤ c) (hroom : c < n + 1) (hbig : (n + 1) * 32 ≤ 140737488355328)
    (hcl : cs.length = n * 3) (hvl : vs.length = 3)
    (hcs : ∀ j v, cs[j]? = some v → w.cell? ⟨b, off + j, none⟩ = some v)
    (hvs : ∀ j v, vs[j]? = some v → w.cell? ⟨vb, voff + j, none⟩ = some v) (h1c : ∀ v ∈ cs, v.oneCell' = true) (h1v : ∀ v ∈ vs, v.oneCell' = true) :
    Calls Try.prog 24 #[.slice (some ⟨b, off, none⟩) n c, .int .i64 i, .slice (some ⟨vb, voff, none⟩) 1 vc] w fun e w' =>
      e = .returned (.slice (some ⟨w.heap.size, 0, none⟩) (n + 1) (grownCap w (n + 1) c 33)) ∧
      w' = (((w.alloc (.cells ((cs.take (i * 3)).toArray ++ Builtin.zeroCells zV.cells (n + 1 - i) ++ Builtin.zeroCells zV.cells (grownCap w (n + 1) c 33 - (n + 1))) 33)).drew.setCells w.heap.size (i * 3) vs).drew).setCells w.heap.size ((i + 1) * 3) (cs.drop (i * 3)) := by
  have ht := Try.underlying22
  have mixed := mixedAbW
  obtain ⟨i0, hi0, hz0, hzs, hzb⟩ := info_parts iVal
  have hz2 : ¬ ((i : Int) = (n : Int)) := by omega
  have hz3 : (c : Int) < (n : Int) + 1 := by omega
  have hsz : (Try.prog.info? 33).map (·.size) = some 3 := by rw [hi0]; simp [hzs]
  have hbw : b < w.heap.size := block_lt_of_cell (hcs 0 _ (List.getElem?_eq_getElem (by omega)))
  have hvw : vb < w.heap.size := block_lt_of_cell (hvs 0 _ (List.getElem?_eq_getElem (by omega)))
  have hkk : (n : Int) + 1 - (i : Int) = ((n + 1 - i : Nat) : Int) := by omega
  have hik : i + (n + 1 - i) = n + 1 := by omega
  have hold : (Builtin.firstCells i0.size i (.slice (some ⟨b, off, none⟩) i c)).run Try.prog w.drew = .ok (cs.take (i * 3)).toArray w.drew := by
    rw [hzs]
    exact run_firstCells_some w.drew 3 i ⟨b, off, none⟩ i c (cs.take (i * 3)) (by rw [List.length_take]; omega) (fun j v hj => by
      rw [Addr.add_lit]
      rw [List.getElem?_take] at hj
      split at hj
      · exact hcs j v hj
      · cases hj)
  have hrz : ∀ ty, (Builtin.append_ #[22, 3] ty #[.slice (some ⟨b, off, none⟩) i c, .int .i64 ((n : Int) + 1 - (i : Int))]).run Try.prog w =
      .ok (.slice (some ⟨w.heap.size, 0, none⟩) (n + 1) (grownCap w (n + 1) c 33)) (w.drew.alloc (.cells ((cs.take (i * 3)).toArray ++ Builtin.zeroCells zV.cells (n + 1 - i) ++ Builtin.zeroCells zV.cells (grownCap w (n + 1) c 33 - (n + 1))) 33)) := fun ty => by
    have h := Lib.run_append_grow_zeros w 22 3 ty 33 i0 _ .i64 .i64 ht Try.underlying3 hi0 hz0 (some ⟨b, off, none⟩) i c (cs.take (i * 3)) hold (n + 1 - i) (by omega) (by omega) (by omega) (by omega) (by rw [hzb]; omega) (by rw [hzb, hik]; exact growslice_fits hroom hbig)
    rw [hik] at h
    rw [hkk]
    exact h
  obtain ⟨G, hG⟩ : ∃ G, G = grownCap w (n + 1) c 33 := ⟨_, rfl⟩
  obtain ⟨ROW, hROW⟩ : ∃ ROW : Array Value, ROW = (cs.take (i * 3)).toArray ++ Builtin.zeroCells zV.cells (n + 1 - i) ++ Builtin.zeroCells zV.cells (G - (n + 1)) := ⟨_, rfl⟩
  rw [← hG] at hrz ⊢
  rw [← hROW] at hrz ⊢
  have hRl : (n + 1) * 3 ≤ ROW.size := by
    rw [hROW]
    simp [Builtin.zeroCells, Value.cells]
    omega
  obtain ⟨W1, hW1⟩ : ∃ W1, W1 = w.drew.alloc (.cells ROW 33) := ⟨_, rfl⟩
  rw [← hW1] at hrz
  have hN : ∀ j, j < (n + 1) * 3 → (W1.cell? ⟨w.heap.size, j, none⟩).isSome = true := fun j hj => by
    rw [hW1, World.cell?_alloc_at (w := w.drew) ROW _ w.heap.size j rfl, Array.getElem?_eq_getElem (by omega)]; rfl
  have hNf : ∀ j, W1.frozen? ⟨w.heap.size, j, none⟩ = false := fun j => by rw [hW1]; exact World.frozen?_alloc_at (w := w.drew) ROW _ w.heap.size j rfl
  have hOb : ∀ j v, w.cell? ⟨b, j, none⟩ = some v → W1.cell? ⟨b, j, none⟩ = some v := fun j v h => by rw [hW1, World.cell?_alloc_past (w := w.drew) _ b j hbw]; exact h
  have hOv : ∀ j v, w.cell? ⟨vb, j, none⟩ = some v → W1.cell? ⟨vb, j, none⟩ = some v := fun j v h => by rw [hW1, World.cell?_alloc_past (w := w.drew) _ vb j hvw]; exact h
  have hcpA : ∀ (W : World), (∀ x, W.cell? x = W1.cell? x) → (∀ x, W.frozen? x = W1.frozen? x) → ∀ ty dc, (Builtin.copy_ #[22, 22] ty #[.slice (some ⟨w.heap.size, i * 3, none⟩) (n + 1 - i) dc, .slice (some ⟨vb, voff, none⟩) 1 vc]).run Try.prog W = .ok (goInt ((1 : Nat) : Int)) (W.setCells w.heap.size (i * 3) vs) := fun W hWc hWf ty dc =>
    run_copy_cellsN W _ _ ty 33 w.heap.size (i * 3) (n + 1 - i) dc ⟨vb, voff, none⟩ 1 vc 3 1 vs ht hsz (by simp only [Nat.min_def]; split <;> omega) (by omega)
      (fun j v hj => by rw [Addr.add_lit, hWc]; exact hOv _ v (hvs j v hj))
      (fun j hj => by rw [hWc]; exact hN _ (by omega)) (fun j hj => by rw [hWf]; exact hNf _) h1v
  have hGn : n + 1 ≤ G := by rw [hG]; exact grownCap_ge w _ _ _
  have hG63 : G ≤ 9223372036854775807 := by
    have := grownCap_le_maxLen w (n + 1) c 33 (by unfold maxLen; omega)
    rw [← hG] at this
    unfold maxLen at this
    omega
  have hGi : ¬ (G = i) := by omega
  have hGim : ¬ (G = i + 1) := by omega
  have hci : ¬ (c = i) := by omega
  have hbN : b ≠ w.heap.size := by omega
  have hdl : (cs.drop (i * 3)).length = (n - i) * 3 := by rw [List.length_drop, hcl]; omega
  have hcpB : ∀ (W : World), (∀ x, W.cell? x = (W1.setCells w.heap.size (i * 3) vs).cell? x) → (∀ x, W.frozen? x = (W1.setCells w.heap.size (i * 3) vs).frozen? x) → ∀ ty dc sc, (Builtin.copy_ #[22, 22] ty #[.slice (some ⟨w.heap.size, (i + 1) * 3, none⟩) (n - i) dc, .slice (some ⟨b, off + i * 3, none⟩) (n - i) sc]).run Try.prog W = .ok (goInt ((n - i : Nat) : Int)) (W.setCells w.heap.size ((i + 1) * 3) (cs.drop (i * 3))) := fun W hWc hWf ty dc sc =>
    run_copy_cellsN W _ _ ty 33 w.heap.size ((i + 1) * 3) (n - i) dc ⟨b, off + i * 3, none⟩ (n - i) sc 3 (n - i) (cs.drop (i * 3)) ht hsz (by simp only [Nat.min_def]; split <;> omega) hdl
      (fun j v hj => by
        rw [Addr.add_lit, hWc, World.cell?_setCells_out _ _ _ _ _ (fun h _ => absurd h hbN), Nat.add_assoc]
        exact hOb _ v (hcs (i * 3 + j) v (by rwa [List.getElem?_drop] at hj)))
      (fun j hj => by rw [hWc]; exact isSome_setCells _ _ _ _ (fun t ht => hN _ (by omega)) _ (hN _ (by omega)))
      (fun j hj => by rw [hWf, World.frozen?_setCells]; exact hNf _) (fun v hv => h1c v (List.mem_of_mem_drop hv))
  subst hW1
  have hE1 : ∀ x, ((w.alloc (.cells ROW 33)).drew).cell? x = (w.drew.alloc (.cells ROW 33)).cell? x := fun x => rfl
  have hE2 : ∀ x, ((w.alloc (.cells ROW 33)).drew).frozen? x = (w.drew.alloc (.cells ROW 33)).frozen? x := fun x => rfl
  have hF1 : ∀ x, (((w.alloc (.cells ROW 33)).drew.setCells w.heap.size (i * 3) vs).drew).cell? x = ((w.drew.alloc (.cells ROW 33)).setCells w.heap.size (i * 3) vs).cell? x := fun x => rfl
  have hF2 : ∀ x, (((w.alloc (.cells ROW 33)).drew.setCells w.heap.size (i * 3) vs).drew).frozen? x = ((w.drew.alloc (.cells ROW 33)).setCells w.heap.size (i * 3) vs).frozen? x := fun x => rfl
  have hw1 : IntKind.i64.wrap ((i : Int) + 1) = (i : Int) + 1 := by rw [IntKind.wrap_i64]; omega
  have hb1 : (0 : Int) ≤ (i : Int) + 1 := by omega
  have hin : i ≤ n := by omega
  have htn : ((i : Int) + 1).toNat = i + 1 := by omega
  have hb3 : (i : Int) ≤ (n : Int) := by omega
  clear hkk hik hold hROW hG hRl
  go_enter Try.func24, Try.ntmps24
  go_wp2_with (first
    | (at_builtin; refine Lib.wpList_append_run _ rfl _ _ _ _ rfl _ _ rfl rfl _ _ (hrz _) ?_)
    | (at_builtin; refine wpList_copy_runI _ rfl _ _ 22 22 rfl _ _ rfl rfl (hcpA _ hE1 hE2 _ _) ?_)
    | (at_builtin; refine wpList_copy_runI _ rfl _ _ 22 22 rfl _ _ rfl rfl (hcpB _ (fun _ => rfl) (fun _ => rfl) _ _ _) ?_))
  go_region_law_o (refine step_copy_runI rfl _ _ 22 22 rfl (.slice (some ⟨w.heap.size, (i + 1) * 3, none⟩) (n - i) (G - (i + 1))) (.slice (some ⟨b, off + i * 3, none⟩) (n - i) (c - i)) (by simp [Act.eval, Act.put]) (by simp [Act.eval, Act.put]) (hcpB _ hF1 hF2 3 (G - (i + 1)) (c - i)) ?_)
  go_wp2
  go_ret
  exact ⟨rfl, rfl⟩
end Go.Proofs.Yteljlbgjpnfdjaa
namespace Go.Proofs.Yteljlbgjpnfdjaa
open Go.Shelf Go.RowKit Go.Lib
set_option linter.unusedSimpArgs false
set_option linter.unusedVariables false

/-- cells laid over a block -/
theorem setCells_turn {b : Nat} {e : TypeId} {fr : Nat × Nat} : ∀ (vs : List Value) (o : Nat) (a : Array Value) (w : World), w.heap[b]? = some (.cells a e fr) →
    Turn (some b) w (w.setCells b o vs) ∧ (w.setCells b o vs).heap.size = w.heap.size ∧ ∃ a' : Array Value, (w.setCells b o vs).heap[b]? = some (.cells a' e fr) ∧ a'.size = a.size ∧
      ∀ j, j < a.size → a'[j]? = if o ≤ j ∧ j < o + vs.length then vs[j - o]? else a[j]?
  | [], o, a, w, hh => ⟨Turn.refl _ _, rfl, a, hh, rfl, fun j _ => by rw [if_neg (by simp)]⟩
  | v :: vs, o, a, w, hh => by
    have hh1 : (w.setCell ⟨b, o, none⟩ v).heap[b]? = some (.cells (a.setIfInBounds o v) e fr) := by
      simp only [World.setCell, Array.getElem?_modify, hh]
      simp
    obtain ⟨ht, hs, a', hh', hs', hc⟩ := setCells_turn vs (o + 1) (a.setIfInBounds o v) (w.setCell ⟨b, o, none⟩ v) hh1
    have ht0 : Turn (some b) w (w.setCell ⟨b, o, none⟩ v) := ⟨rfl, rfl, rfl, by simp [World.setCell], fun b' hb' hn => Below.heap_setCell w ⟨b, o, none⟩ v b' (fun h => hn (by rw [h])), fun b' a' e' fr' h' => by
      by_cases hbb : b' = b
      · subst hbb
        rw [hh] at h'
        simp only [Option.some.injEq, Obj.cells.injEq] at h'
        obtain ⟨rfl, rfl, rfl⟩ := h'
        exact ⟨_, _, _, hh1, by simp⟩
      · exact ⟨a', e', fr', by rw [Below.heap_setCell w ⟨b, o, none⟩ v b' hbb]; exact h', rfl⟩⟩
    refine ⟨ht0.trans ht, by rw [World.setCells, hs]; simp [World.setCell], a', hh', by simpa using hs', fun j hj => ?_⟩
    rw [hc j (by simpa using hj)]
    by_cases h1 : j = o
    · subst h1
      rw [if_neg (by omega), if_pos (by simp)]
      simp [hj]
    · by_cases h2 : o + 1 ≤ j ∧ j < o + 1 + vs.length
      · rw [if_pos h2, if_pos (by simp; omega), show j - o = (j - (o + 1)) + 1 by omega, List.getElem?_cons_succ]
      · rw [if_neg h2, if_neg (by simp; omega), Array.getElem?_setIfInBounds_ne (by omega)]

/-- the cells of a row with an element put in -/
theorem holds_insert {w w' : World} {X Y : Nat → Prop} {c : List (List CV)} {v : List CV} {i : Nat} {cs vs : List Value} (hst : Stays X Y w w') (hi : i ≤ c.length) (hall : ∀ el ∈ c, el.length = 3) (hv : v.length = 3) (hcl : cs.length = c.length * 3) (hvl : vs.length = 3)
    (hc : Holds w X 3 c (fun j => cs[j]?)) (hvv : Holds w X 3 [v] (fun j => vs[j]?)) : Holds w' Y 3 (c.take i ++ [v] ++ c.drop i) (fun j => (cs.take (i * 3) ++ vs ++ cs.drop (i * 3))[j]?) := by
  intro k el hk f cv hf
  have hti : (c.take i).length = i := by rw [List.length_take]; omega
  have htc : (cs.take (i * 3)).length = i * 3 := by rw [List.length_take]; omega
  have hf3 : f < 3 := by
    have h1 := (List.getElem?_eq_some_iff.1 hf).1
    have h2 : el.length = 3 := by
      have := List.mem_of_getElem? hk
      rw [List.append_assoc, List.mem_append, List.mem_append, List.mem_singleton] at this
      rcases this with h | h | h
      · exact hall _ (List.mem_of_mem_take h)
      · rw [h]; exact hv
      · exact hall _ (List.mem_of_mem_drop h)
    omega
  show ∃ r, (cs.take (i * 3) ++ vs ++ cs.drop (i * 3))[k * 3 + f]? = some r ∧ CVR w' Y cv r
  by_cases h1 : k < i
  · rw [List.append_assoc, List.getElem?_append_left (by omega), List.getElem?_take_of_lt h1] at hk
    obtain ⟨r, g1, g2⟩ := hc k el hk f cv hf
    refine ⟨r, ?_, g2.step hst⟩
    rw [List.append_assoc, List.getElem?_append_left (by omega), List.getElem?_take_of_lt (by omega)]
    exact g1
  · by_cases h2 : k = i
    · subst h2
      rw [List.append_assoc, List.getElem?_append_right (by omega), hti, Nat.sub_self] at hk
      simp only [List.cons_append, List.getElem?_cons_zero, Option.some.injEq] at hk
      subst hk
      obtain ⟨r, g1, g2⟩ := hvv 0 v rfl f cv hf
      refine ⟨r, ?_, g2.step hst⟩
      rw [List.append_assoc, List.getElem?_append_right (by omega), htc, List.getElem?_append_left (by omega)]
      simp only [Nat.zero_mul, Nat.zero_add] at g1
      rw [Nat.add_sub_cancel_left]
      exact g1
    · rw [List.append_assoc, List.getElem?_append_right (by omega), hti, show k - i = (k - i - 1) + 1 by omega] at hk
      simp only [List.cons_append, List.nil_append, List.getElem?_cons_succ, List.getElem?_drop] at hk
      rw [show i + (k - i - 1) = k - 1 by omega] at hk
      obtain ⟨r, g1, g2⟩ := hc (k - 1) el hk f cv hf
      refine ⟨r, ?_, g2.step hst⟩
      rw [List.append_assoc, List.getElem?_append_right (by omega), htc, List.getElem?_append_right (by omega), hvl, List.getElem?_drop, show i * 3 + (k * 3 + f - i * 3 - 3) = (k - 1) * 3 + f by omega]
      exact g1

/-- a new row -/
theorem rowM_new {w w' : World} {X : Nat → Prop} {B : Nat} {at_ : Option (Nat × Nat)} {c' : List (List CV)} {a : Array Value} {e : TypeId} {cap : Nat} {n : Nat} {NC : List Value} (hB : B = w.heap.size) (ht : Turn none w w') (hh : w'.heap[B]? = some (.cells a e (0, 0))) (hsz : a.size = cap * 3) (hn : c'.length = n) (hcap : n ≤ cap) (hmx : cap ≤ 9223372036854775807)
    (hall : ∀ el ∈ c', el.length = 3) (hNC : ∀ j, j < n * 3 → a[j]? = NC[j]?)
    (hh3 : ∀ Y, Stays (fun b => X b ∨ AtB at_ b) Y w w' → Holds w' Y 3 c' (fun j => NC[j]?)) (hX : ∀ b, X b → b < w.heap.size) :
    ∃ at', Turn (at_.map (·.1)) w w' ∧ (∀ b, AtB at' b → (AtB at_ b ∨ w.heap.size ≤ b) ∧ b < w'.heap.size) ∧ RowP w' (fun b => X b ∨ AtB at' b) at' c' e 3 ∧ SlP at' c'.length (.slice (some ⟨B, 0, none⟩) n cap) := by
  subst hB hn
  have hlt : w.heap.size < w'.heap.size := (Array.getElem?_eq_some_iff.1 hh).1
  refine ⟨some (w.heap.size, cap), ⟨ht.os, ht.tape, ht.output, ht.size, fun b hb _ => ht.heap b hb (by simp), ht.sz⟩, ?_, ?_, ?_⟩
  · rintro b ⟨k, hk⟩
    simp only [Option.some.injEq, Prod.mk.injEq] at hk
    exact ⟨.inr (by omega), by omega⟩
  · refine ⟨by omega, hall, .inr ⟨w.heap.size, cap, a, (0, 0), rfl, hh, FreeR.none hsz hmx, by omega, hcap, ?_⟩⟩
    intro i el hi f cv hf
    obtain ⟨r, g1, g2⟩ := hh3 (fun b => X b ∨ AtB (some (w.heap.size, cap)) b) ⟨fun b hb hl => ht.heap b hl (by simp), by
      rintro b (hb | ⟨k, hk⟩)
      · exact .inl (.inl hb)
      · simp only [Option.some.injEq, Prod.mk.injEq] at hk
        exact .inr (by omega)⟩ i el hi f cv hf
    refine ⟨r, ?_, g2⟩
    have hf3 : f < 3 := by
      have h1 := (List.getElem?_eq_some_iff.1 hf).1
      rw [hall el (List.mem_of_getElem? hi)] at h1
      exact h1
    have hil : i < c'.length := (List.getElem?_eq_some_iff.1 hi).1
    rw [hNC _ (by omega)]
    exact g1
  · exact .inr ⟨w.heap.size, cap, cap, rfl, rfl, hcap, Nat.le_refl _⟩
/-- a row that stays where it is -/
theorem rowM_old {w w' : World} {X : Nat → Prop} {b cap rc : Nat} {c' : List (List CV)} {a' : Array Value} {e : TypeId} {fr : Nat × Nat} {n : Nat} {NC : List Value} (ht : Turn (some b) w w') (hs : w'.heap.size = w.heap.size) (hh : w'.heap[b]? = some (.cells a' e fr)) (hfr : FreeR fr a'.size 3) (hsz : cap * 3 ≤ a'.size) (hn : c'.length = n) (hnr : n ≤ rc) (hcap : rc ≤ cap)
    (hall : ∀ el ∈ c', el.length = 3) (hNC : ∀ j, j < n * 3 → a'[j]? = NC[j]?)
    (hh3 : ∀ Y, Stays (fun x => X x ∨ AtB (some (b, cap)) x) Y w w' → Holds w' Y 3 c' (fun j => NC[j]?)) :
    ∃ at', Turn ((some (b, cap)).map (·.1)) w w' ∧ (∀ x, AtB at' x → (AtB (some (b, cap)) x ∨ w.heap.size ≤ x) ∧ x < w'.heap.size) ∧ RowP w' (fun x => X x ∨ AtB at' x) at' c' e 3 ∧ SlP at' c'.length (.slice (some ⟨b, 0, none⟩) n rc) := by
  subst hn
  have hlt : b < w'.heap.size := (Array.getElem?_eq_some_iff.1 hh).1
  refine ⟨some (b, cap), ht, ?_, ?_, ?_⟩
  · rintro x ⟨k, hk⟩
    have hk' := hk
    simp only [Option.some.injEq, Prod.mk.injEq] at hk
    exact ⟨.inl ⟨k, hk'⟩, by omega⟩
  · refine ⟨by omega, hall, .inr ⟨b, cap, a', fr, rfl, hh, hfr, hsz, by omega, ?_⟩⟩
    intro i el hi f cv hf
    obtain ⟨r, g1, g2⟩ := hh3 (fun x => X x ∨ AtB (some (b, cap)) x) ⟨fun x hx hl => ht.heap x hl (by
      intro h
      simp only [Option.some.injEq] at h
      exact hx (.inr ⟨cap, by rw [h]⟩)), fun x hx => .inl hx⟩ i el hi f cv hf
    refine ⟨r, ?_, g2⟩
    have hf3 : f < 3 := by
      have h1 := (List.getElem?_eq_some_iff.1 hf).1
      rw [hall el (List.mem_of_getElem? hi)] at h1
      exact h1
    have hil : i < c'.length := (List.getElem?_eq_some_iff.1 hi).1
    rw [hNC _ (by omega)]
    exact g1
  · exact .inr ⟨b, cap, rc, rfl, rfl, hnr, hcap⟩
theorem frozen_free {w : World} {b o : Nat} {a : Array Value} {e : TypeId} {fr : Nat × Nat} (hh : w.heap[b]? = some (.cells a e fr)) (h : ¬ (fr.1 ≤ o ∧ o < fr.2)) : w.frozen? ⟨b, o, none⟩ = false := by
  unfold World.frozen?
  rw [hh]
  simp only [Bool.and_eq_false_iff, decide_eq_false_iff_not]
  by_cases h1 : fr.1 ≤ o
  · exact .inr (fun h2 => h ⟨h1, h2⟩)
  · exact .inl h1
theorem shape_cells {w : World} {b : Nat} {a : Array Value} {e : TypeId} {fr : Nat × Nat} (hh : w.heap[b]? = some (.cells a e fr)) : w.shape? b = some (e, a.size) := by
  unfold World.shape?
  rw [hh]

theorem Turn.below' {w w' : World} (h : Turn none w w') (b0 : Option Nat) : Turn b0 w w' := ⟨h.os, h.tape, h.output, h.size, fun b hb _ => h.heap b hb (by simp), h.sz⟩

set_option maxHeartbeats 1000000 in
theorem m_insert (c : List (List CV)) (v : List CV) (i : Nat) (hi : i ≤ c.length) (hv : v.length = 3) (hlen : c.length < 1099511627776) :
    FnM Try.prog ⟨0, 33, 3, true⟩ 24 [.c (.vs c), .c (.v (.int .i64 (i : Int))), .c (.vs [v])] (.c (.vs (c.take i ++ [v] ++ c.drop i))) := by
  refine ⟨canEnter_of Try.func24 (by kernel_rfl) (by rfl), c, (c.take i ++ [v] ++ c.drop i), rfl, rfl, (fun h => by cases h), fun w X at_ args hg hX hat hrow hargs => ?_⟩
  match args, hargs with
  | [], h => simp [ArgsM] at h
  | v0 :: rest, h =>
    simp only [ArgsM] at h
    obtain ⟨⟨c0, hc0, hsl⟩, hr⟩ := h
    simp only [DV.c.injEq, CV.vs.injEq] at hc0
    subst hc0
    match rest, hr with
    | [], h => simp [DVRs] at h
    | [_], h => simp [DVRs] at h
    | _ :: _ :: _ :: _, h => simp [DVRs] at h
    | [v1, v2], h =>
      simp only [DVRs, DVR] at h
      obtain ⟨h1, h2, _⟩ := h
      cases h1
      obtain ⟨_, hallc, hrow⟩ := hrow
      change ∀ el ∈ c, el.length = 3 at hallc
      change (at_ = none ∧ c = []) ∨ ∃ (b cap : Nat) (a : Array Value) (fr : Nat × Nat), at_ = some (b, cap) ∧ w.heap[b]? = some (.cells a 33 fr) ∧ FreeR fr a.size 3 ∧ cap * 3 ≤ a.size ∧ c.length ≤ cap ∧
        ∀ (i : Nat) (el : List CV), c[i]? = some el → ∀ (f : Nat) (cv : CV), el[f]? = some cv → ∃ r, a[i * 3 + f]? = some r ∧ CVR w (fun b => X b ∨ AtB at_ b) cv r at hrow
      cases h2 with
      | vs els vb voff sz vc g hsz hvc hcell hval =>
      have hs3 : sz = 3 := by rw [← hsz v (by simp)]; exact hv
      subst hs3
      obtain ⟨vs, hvl, hvs, h1v, hvH⟩ := cells_of (w := w) (Y := fun b => X b ∨ AtB at_ b) (els := [v]) (b := vb) (o := voff) (g := g) hsz (by omega) (fun i el h f cv h' => ⟨(hcell i el h f cv h').2, hval i el h f cv h'⟩)
      have hvl : vs.length = 3 := hvl
      have hlen' : (c.take i ++ [v] ++ c.drop i).length = c.length + 1 := by simp; omega
      have hall' : ∀ el ∈ c.take i ++ [v] ++ c.drop i, el.length = 3 := by
        intro el h
        rw [List.append_assoc, List.mem_append, List.mem_append, List.mem_singleton] at h
        rcases h with h | h | h
        · exact hallc _ (List.mem_of_mem_take h)
        · rw [h]; exact hv
        · exact hallc _ (List.mem_of_mem_drop h)
      have hnX : ¬ (X vb ∨ AtB at_ vb) := by
        match v, hv with
        | x :: r, _ => exact (hcell 0 (x :: r) rfl 0 x rfl).1
      have hvc0 : w.cell? ⟨vb, voff + 0, none⟩ = some vs[0] := hvs 0 _ (List.getElem?_eq_getElem (by omega))
      have hfin : ∀ (e : Ending) (w' : World) (x : Value), e = .returned x → (∃ at', Turn (at_.map (·.1)) w w' ∧ (∀ b, AtB at' b → (AtB at_ b ∨ w.heap.size ≤ b) ∧ b < w'.heap.size) ∧ RowP w' (fun b => X b ∨ AtB at' b) at' (c.take i ++ [v] ++ c.drop i) 33 3 ∧ SlP at' (c.take i ++ [v] ++ c.drop i).length x) →
          ∃ v_1 at', e = .returned v_1 ∧ Turn (at_.map (·.1)) w w' ∧ (∀ b, AtB at' b → (AtB at_ b ∨ w.heap.size ≤ b) ∧ b < w'.heap.size) ∧ RowP w' (fun b => X b ∨ AtB at' b) at' (c.take i ++ [v] ++ c.drop i) 33 3 ∧
            (if (true : Bool) = true then SlP at' (c.take i ++ [v] ++ c.drop i).length v_1 else v_1 = .tuple #[] ∧ at' = at_) := by
        rintro e w' x rfl ⟨at', h1, h2, h3, h4⟩
        exact ⟨x, at', rfl, h1, h2, h3, by rw [if_pos rfl]; exact h4⟩
      have hgrown : ∀ rc, c.length + 1 ≤ grownCap w (c.length + 1) rc 33 := fun rc => grownCap_ge w _ _ _
      have hgrmx : ∀ rc, grownCap w (c.length + 1) rc 33 ≤ 9223372036854775807 := fun rc => by
        have := grownCap_le_maxLen w (c.length + 1) rc 33 (by unfold maxLen; omega)
        unfold maxLen at this
        omega
      rcases hrow with ⟨rfl, rfl⟩ | ⟨b, cap, a, fr, rfl, hh, hfr, hcap, hcc, hcells⟩
      · rcases hsl with ⟨_, rfl, _⟩ | ⟨_, _, _, h, _⟩
        rotate_left
        · cases h
        have hi0 : i = 0 := by simpa using hi
        subst hi0
        refine (ins_end_grow none 0 0 vb voff vc [] vs w (by omega) (by omega) (by omega) rfl hvl (fun _ => rfl) (fun a h => by cases h) hvs h1v).mono ?_
        rintro e w' ⟨he, rfl⟩
        refine hfin _ _ _ he (rowM_new (NC := vs) rfl ((Turn.drew w).trans (Turn.alloc _ _)) (heap_new w.drew _) ?_ hlen' (hgrown 0) (hgrmx 0) hall' ?_ ?_ hX)
        · have hg1 : 1 ≤ grownCap w (0 + 1) 0 33 := hgrown 0
          generalize grownCap w (0 + 1) 0 33 = G at hg1 ⊢
          have hz3 : zV.cells.size = 3 := rfl
          rw [Array.size_append, size_zeroCells, List.nil_append, List.size_toArray, hvl, hz3]
          omega
        · intro j hj
          simp only [List.nil_append]
          rw [Array.getElem?_append_left (by simp; omega)]
          simp
        · intro Y hY
          have := holds_insert (c := []) (cs := []) (i := 0) hY (by simp) (fun el h => by simp at h) hv rfl hvl (fun i el h => by simp at h) hvH
          simpa using this
      rcases hsl with ⟨h, _⟩ | ⟨b', cap', rc, hb', rfl, hnr, hrc⟩
      · cases h
      simp only [Option.some.injEq, Prod.mk.injEq] at hb'
      obtain ⟨rfl, rfl⟩ := hb'
      have hbw : b < w.heap.size := (Array.getElem?_eq_some_iff.1 hh).1
      have hvb : vb ≠ b := fun h => hnX (.inr ⟨cap, by rw [h]⟩)
      obtain ⟨cs, hcl, hcs, h1c, hcH⟩ := cells_of (w := w) (Y := fun x => X x ∨ AtB (some (b, cap)) x) (els := c) (b := b) (o := 0) (g := fun i f => (a[i * 3 + f]?).getD default) hallc (by omega) (fun i el h f cv h' => by
        obtain ⟨r, g1, g2⟩ := hcells i el h f cv h'
        refine ⟨?_, ?_⟩
        · rw [heap_cell hh, Nat.zero_add, g1]
          simp
        · rw [g1]
          exact g2)
      have hcs' : ∀ j u, cs[j]? = some u → w.cell? ⟨b, 0 + j, none⟩ = some u := hcs
      have hca : ∀ j u, cs[j]? = some u → a[j]? = some u := fun j u h => by
        have := hcs j u h
        rw [heap_cell hh, Nat.zero_add] at this
        exact this
      have hcj : ∀ j, j < c.length * 3 → a[j]? = cs[j]? := fun j hj => by
        rw [List.getElem?_eq_getElem (by omega)]
        exact hca j _ (List.getElem?_eq_getElem (by omega))
      have hbig : (c.length + 1) * 32 ≤ 140737488355328 := by omega
      have hsome : ∀ j, j < a.size → (w.cell? ⟨b, 0 + j, none⟩).isSome = true := fun j hj => by
        rw [heap_cell hh, Nat.zero_add, Array.getElem?_eq_getElem hj]
        rfl
      have hnf : ∀ j, j < a.size → w.frozen? ⟨b, 0 + j, none⟩ = false := fun j hj => by
        rw [Nat.zero_add]
        exact frozen_free hh (hfr.1 j hj)
      have hnf2 : w.frozen? ⟨b, a.size, none⟩ = false := frozen_free hh (hfr.2 (by omega)).1
      have hpos : cap * 3 ≤ a.size := hcap
      have hrc63 : rc ≤ 9223372036854775807 := by
        have := (hfr.2 (by omega)).2
        omega
      have hvshape : ∃ tA kA, w.shape? vb = some (tA, kA) ∧ kA ≠ 0 := by
        obtain ⟨e, n, h1, h2, _⟩ := World.shape?_of_cell? hvc0
        exact ⟨e, n, h1, by simp at h2; omega⟩
      by_cases hie : i = c.length
      · subst hie
        have hNC : ∀ Y, Stays (fun x => X x ∨ AtB (some (b, cap)) x) Y w w → True := fun _ _ => trivial
        have e0 : cs.take (c.length * 3) ++ vs ++ cs.drop (c.length * 3) = cs ++ vs := by
          rw [List.take_of_length_le (by omega), List.drop_of_length_le (by omega), List.append_nil]
        by_cases hroom : c.length + 1 ≤ rc
        · obtain ⟨ht, hs, a', hh', has', hch⟩ := setCells_turn vs (0 + c.length * 3) a w hh
          refine (ins_end_room b 0 c.length rc vb voff vc vs w hroom hrc63 hvl (fun j hj => by rw [Nat.add_assoc]; exact hsome _ (by omega)) (fun j hj => by rw [Nat.add_assoc]; exact hnf _ (by omega)) hvs h1v).mono ?_
          rintro e w' ⟨he, rfl⟩
          refine hfin _ _ _ he (rowM_old (NC := cs ++ vs) ht hs hh' (by rw [has']; exact hfr) (by rw [has']; exact hcap) hlen' hroom hrc hall' ?_ ?_)
          · intro j hj
            rw [hch j (by omega), hvl]
            by_cases h1 : j < c.length * 3
            · rw [if_neg (by omega), List.getElem?_append_left (by omega)]
              exact hcj j h1
            · rw [if_pos (by omega), List.getElem?_append_right (by omega), hcl, Nat.zero_add]
          · intro Y hY
            have := holds_insert hY (Nat.le_refl c.length) hallc hv hcl hvl hcH hvH
            rw [e0] at this
            exact this
        · refine (ins_end_grow (some ⟨b, 0, none⟩) c.length rc vb voff vc cs vs w hnr (by omega) hbig hcl hvl (fun h => by cases h) (fun x h => by cases h; intro j u hj; rw [Addr.add_lit]; exact hcs j u hj) hvs h1v).mono ?_
          rintro e w' ⟨he, rfl⟩
          refine hfin _ _ _ he (rowM_new (NC := cs ++ vs) rfl ((Turn.drew w).trans (Turn.alloc _ _)) (heap_new w.drew _) ?_ hlen' (hgrown rc) (hgrmx rc) hall' ?_ ?_ hX)
          · have := hgrown rc
            have hz3 : zV.cells.size = 3 := rfl
            rw [Array.size_append, size_zeroCells, List.size_toArray, List.length_append, hvl, hcl, hz3]
            omega
          · intro j hj
            rw [Array.getElem?_append_left (by simp; omega)]
            simp
          · intro Y hY
            have := holds_insert hY (Nat.le_refl c.length) hallc hv hcl hvl hcH hvH
            rw [e0] at this
            exact this
      have hin : i < c.length := by omega
      have hNCl : (cs.take (i * 3)).length = i * 3 := by rw [List.length_take]; omega
      have hdl : (cs.drop (i * 3)).length = (c.length - i) * 3 := by rw [List.length_drop]; omega
      by_cases hroom : c.length + 1 ≤ rc
      · obtain ⟨tA, kA, hsa, hkA⟩ := hvshape
        obtain ⟨ht1, hs1, a1, hh1, has1, hch1⟩ := setCells_turn (cs.drop (i * 3)) (0 + (i + 1) * 3) a w.drew hh
        obtain ⟨ht2, hs2, a2, hh2, has2, hch2⟩ := setCells_turn vs (0 + i * 3) a1 _ hh1
        refine (ins_shift b 0 c.length rc i vb voff vc cs vs w hin hroom hrc63 hvb hcl hvl hcs (fun j hj => hsome j (by omega)) (fun j hj => hnf j (by omega)) hvs h1c h1v tA 33 kA a.size hsa (shape_cells hh) hkA (hnf _ (by omega)) hnf2).mono ?_
        rintro e w' ⟨he, rfl⟩
        refine hfin _ _ _ he (rowM_old (NC := cs.take (i * 3) ++ vs ++ cs.drop (i * 3)) (((Turn.drew w).below' (some b)).trans (ht1.trans ht2)) (by rw [hs2, hs1]; rfl) hh2 (by rw [has2, has1]; exact hfr) (by rw [has2, has1]; exact hcap) hlen' hroom hrc hall' ?_ ?_)
        · intro j hj
          rw [hch2 j (by omega), hch1 j (by omega), hvl, hdl]
          by_cases h1 : j < i * 3
          · rw [if_neg (by omega), if_neg (by omega), List.append_assoc, List.getElem?_append_left (by omega), List.getElem?_take_of_lt h1]
            exact hcj j (by omega)
          · by_cases h2 : j < i * 3 + 3
            · rw [if_pos (by omega), List.append_assoc, List.getElem?_append_right (by omega), hNCl, List.getElem?_append_left (by omega), Nat.zero_add]
            · rw [if_neg (by omega), if_pos (by omega), List.append_assoc, List.getElem?_append_right (by omega), hNCl, List.getElem?_append_right (by omega), hvl]
              congr 1
              omega
        · intro Y hY
          exact holds_insert hY hi hallc hv hcl hvl hcH hvH
      · refine (ins_grow b 0 c.length rc i vb voff vc cs vs w hin hnr (by omega) hbig hcl hvl hcs hvs h1c h1v).mono ?_
        rintro e w' ⟨he, rfl⟩
        obtain ⟨ROW, hROW⟩ : ∃ ROW : Array Value, ROW = (cs.take (i * 3)).toArray ++ Builtin.zeroCells zV.cells (c.length + 1 - i) ++ Builtin.zeroCells zV.cells (grownCap w (c.length + 1) rc 33 - (c.length + 1)) := ⟨_, rfl⟩
        rw [← hROW]
        have hgr := hgrown rc
        have hRs : ROW.size = grownCap w (c.length + 1) rc 33 * 3 := by
          rw [hROW]
          have hz3 : zV.cells.size = 3 := rfl
          rw [Array.size_append, Array.size_append, size_zeroCells, size_zeroCells, List.size_toArray, hNCl, hz3]
          omega
        have hR0 : ∀ j, j < i * 3 → ROW[j]? = cs[j]? := fun j hj => by
          rw [hROW, Array.append_assoc, Array.getElem?_append_left (by simp; omega)]
          simp [List.getElem?_take_of_lt hj]
        clear hROW
        have hhR : ((w.alloc (.cells ROW 33)).drew).heap[w.heap.size]? = some (.cells ROW 33 (0, 0)) := heap_new w _
        obtain ⟨ht1, hs1, a1, hh1, has1, hch1⟩ := setCells_turn vs (i * 3) ROW _ hhR
        obtain ⟨ht2, hs2, a2, hh2, has2, hch2⟩ := setCells_turn (cs.drop (i * 3)) ((i + 1) * 3) a1 (((w.alloc (.cells ROW 33)).drew.setCells w.heap.size (i * 3) vs).drew) hh1
        have htA : Turn none w ((((w.alloc (.cells ROW 33)).drew.setCells w.heap.size (i * 3) vs).drew).setCells w.heap.size ((i + 1) * 3) (cs.drop (i * 3))) := by
          have h0 := Turn.alloc w (.cells ROW 33)
          have h1 : Turn none w (w.alloc (.cells ROW 33)).drew := h0.trans (Turn.drew _)
          have h2 := (ht1.trans ((Turn.drew _).below' (some w.heap.size))).trans ht2
          refine ⟨h2.os.trans h1.os, h2.tape.trans h1.tape, h2.output.trans h1.output, Nat.le_trans h1.size h2.size, fun b' hb' _ => ?_, .of_heap fun b' hb' => ?_⟩
          · exact (h2.heap b' (Nat.lt_of_lt_of_le hb' h1.size) (by simp; omega)).trans (h1.heap b' hb' (by simp))
          · exact (h2.heap b' (Nat.lt_of_lt_of_le hb' h1.size) (by simp; omega)).trans (h1.heap b' hb' (by simp))
        refine hfin _ _ _ he (rowM_new (NC := cs.take (i * 3) ++ vs ++ cs.drop (i * 3)) rfl htA hh2 (by rw [has2, has1, hRs]) hlen' (hgrown rc) (hgrmx rc) hall' ?_ ?_ hX)
        · intro j hj
          rw [hch2 j (by omega), hch1 j (by omega), hvl, hdl]
          by_cases h1 : j < i * 3
          · rw [if_neg (by omega), if_neg (by omega), List.append_assoc, List.getElem?_append_left (by omega), List.getElem?_take_of_lt h1]
            exact hR0 j h1
          · by_cases h2 : j < i * 3 + 3
            · rw [if_neg (by omega), if_pos (by omega), List.append_assoc, List.getElem?_append_right (by omega), hNCl, List.getElem?_append_left (by omega)]
            · rw [if_pos (by omega), List.append_assoc, List.getElem?_append_right (by omega), hNCl, List.getElem?_append_right (by omega), hvl]
              congr 1
              omega
        · intro Y hY
          exact holds_insert hY hi hallc hv hcl hvl hcH hvH
end Go.Proofs.Yteljlbgjpnfdjaa
namespace Go.Proofs.Yteljlbgjpnfdjaa
open Go.RowKit
set_option linter.unusedSimpArgs false
set_option linter.unusedVariables false

theorem fnC_calls1 {P : Program} {f : FuncId} {fn : Func} (hf : P.funcs[f]? = some fn) (hn : (fn.name == "runtime.NumGoroutine") = false) (hb : fn.body.isNone = false) {a v : Value} (hv : v.oneCell' = true)
    (h : ∀ w, Calls P f #[a] w fun e w' => e = .returned v ∧ w' = w) : FnC P f [.c (.v a)] (.c (.v v)) :=
  FnC.of (canEnter_of hf hn hb) fun w X vs _ _ hvs => by
    match vs, hvs with
    | [x], hvs =>
      simp only [DVRs, DVR] at hvs
      obtain ⟨h1, _⟩ := hvs
      cases h1
      refine (h w).mono ?_
      rintro e w' ⟨rfl, rfl⟩
      refine ⟨v, rfl, ?_, Below.refl _ _⟩
      simp only [DVR]
      exact .v v hv
    | [], hvs => simp [DVRs] at hvs
    | _ :: _ :: _, hvs => simp [DVRs] at hvs
theorem c_LZ (y : Nat) (h : y < 18446744073709551616) : FnC Try.prog 73 [uD y] (iD (64 - (Lib.bitLen y : Int))) :=
  fnC_calls1 Try.func73 (by kernel_rfl) (by kernel_rfl) rfl fun w => by
    have := Try.bits_LeadingZeros64 (y : Int) w (by omega) (by omega)
    simpa using this

/- numbers of 64 bits -/
theorem wrapUm (n : Int) : IntKind.wrap .u64 n = n % 18446744073709551616 := Eq.trans rfl rfl
theorem wrapU (n : Nat) (h : n < 18446744073709551616) : IntKind.wrap .u64 (n : Int) = (n : Int) := by
  rw [wrapUm]
  omega
theorem bvU (n : Nat) (h : n < 18446744073709551616) : (BitVec.ofInt (IntKind.bits .u64) (n : Int)).toNat = n := by
  show (BitVec.ofInt 64 (n : Int)).toNat = n
  rw [BitVec.toNat_ofInt]
  simp
  omega

theorem and0 (x : Nat) : x * 4294967296 &&& 4294967295 = 0 := by
  have h := Nat.and_two_pow_sub_one_eq_mod (x * 4294967296) 32
  rw [show (2 ^ 32 - 1 : Nat) = 4294967295 by omega, show (2 ^ 32 : Nat) = 4294967296 by omega] at h
  rw [h]
  exact Nat.mul_mod_left x _
theorem bvM : (BitVec.ofInt (IntKind.bits .u64) (4294967295 : Int)).toNat = 4294967295 := bvU 4294967295 (by omega)
theorem and0b (x : Nat) (h : x * 4294967296 < 18446744073709551616) : IntKind.wrap .u64 (((BitVec.ofInt (IntKind.bits .u64) ((x * 4294967296 : Nat) : Int) &&& BitVec.ofInt (IntKind.bits .u64) (4294967295 : Int)).toNat : Nat) : Int) = 0 := by
  rw [BitVec.toNat_and, bvU _ h, bvM, and0]
  rfl

/-- the long division -/
theorem long_div (hi lo y s : Nat) (hy : 0 < y) (hs : s ≤ 64) (yn1 : Nat) (hY : y * 2 ^ s = yn1 * 4294967296) (hlo : lo < 18446744073709551616) :
    (hi * 18446744073709551616 + lo) / y = (hi * 2 ^ s + lo / 2 ^ (64 - s)) / yn1 * 4294967296 + ((hi * 2 ^ s + lo / 2 ^ (64 - s)) % yn1 * 4294967296 + lo * 2 ^ s % 18446744073709551616 / 4294967296) / yn1 := by
  have hp : 0 < 2 ^ s := Nat.pow_pos (by omega)
  have h64 : 2 ^ (64 - s) * 2 ^ s = 18446744073709551616 := by
    rw [← Nat.pow_add, Nat.sub_add_cancel hs]
  have hyn : 0 < yn1 := by
    have : 0 < y * 2 ^ s := Nat.mul_pos hy hp
    omega
  have hls : lo * 2 ^ s / 18446744073709551616 = lo / 2 ^ (64 - s) := by
    rw [← h64, Nat.mul_div_mul_right _ _ hp]
  rw [← Nat.mul_div_mul_right _ y hp, hY]
  have e1 : (hi * 18446744073709551616 + lo) * 2 ^ s = (hi * 2 ^ s + lo / 2 ^ (64 - s)) * 18446744073709551616 + lo * 2 ^ s % 18446744073709551616 := by
    rw [← hls, Nat.add_mul, Nat.mul_right_comm]
    generalize hi * 2 ^ s = a
    generalize lo * 2 ^ s = b
    omega
  rw [e1]
  generalize hi * 2 ^ s + lo / 2 ^ (64 - s) = u
  generalize lo * 2 ^ s % 18446744073709551616 = v
  rw [Nat.mul_comm yn1, ← Nat.div_div_eq_div_mul]
  have e2 : (u * 18446744073709551616 + v) / 4294967296 = u * 4294967296 + v / 4294967296 := by omega
  rw [e2]
  have e3 : u = yn1 * (u / yn1) + u % yn1 := (Nat.div_add_mod u yn1).symm
  have e4 : u * 4294967296 + v / 4294967296 = yn1 * (u / yn1 * 4294967296) + (u % yn1 * 4294967296 + v / 4294967296) := by
    rw [← Nat.mul_assoc]
    generalize yn1 * (u / yn1) = a at e3 ⊢
    generalize u % yn1 = b at e3 ⊢
    omega
  rw [e4, Nat.mul_add_div hyn]

theorem divlt {m n : Nat} (h : m < n * 4294967296) : m / n < 4294967296 := by
  refine Nat.div_lt_of_lt_mul ?_
  exact h
theorem fdiv32 (v : Nat) : Int.fdiv (v : Int) (2 ^ 32) = ((v / 4294967296 : Nat) : Int) := by
  rw [Int.fdiv_eq_ediv_of_nonneg _ (by omega)]
  omega
theorem fdiv32m (v : Nat) : Int.fdiv ((v * 4294967296 : Nat) : Int) (2 ^ 32) = (v : Int) := by
  rw [Int.fdiv_eq_ediv_of_nonneg _ (by omega)]
  omega
theorem word_b (b v yn1 : Nat) (hr1 : b < yn1) (hv : v < 18446744073709551616) : b * 4294967296 + v / 4294967296 < yn1 * 4294967296 := by
  omega
theorem wd1 (u v a b : Nat) (hsum : a + b = u) : (u : Int) * 4294967296 + ((v / 4294967296 : Nat) : Int) - (a : Int) * 4294967296 = ((b * 4294967296 + v / 4294967296 : Nat) : Int) := by omega
theorem wd2 (x : Nat) (h : x < 18446744073709551616) : (x : Int) % 18446744073709551616 = x := by omega
theorem wd3 (x y z M : Int) : ((x % M + y) % M - z % M) % M = (x + y - z) % M := by
    rw [Int.emod_add_emod, Int.sub_emod, Int.emod_emod, Int.emod_emod, ← Int.sub_emod]
theorem word_d (u v a b : Nat) (hsum : a + b = u) (h : b * 4294967296 + v / 4294967296 < 18446744073709551616) :
    IntKind.wrap .u64 (IntKind.wrap .u64 (IntKind.wrap .u64 ((u : Int) * 4294967296) + ((v / 4294967296 : Nat) : Int)) - IntKind.wrap .u64 ((a : Int) * 4294967296)) = ((b * 4294967296 + v / 4294967296 : Nat) : Int) := by
  simp only [wrapUm, wd3, wd1 u v a b hsum, wd2 _ h]
theorem word_e (a b : Nat) (ha : a < 4294967296) (hb : b < 4294967296) : IntKind.wrap .u64 (IntKind.wrap .u64 ((b : Int) * 4294967296) + (a : Int)) = ((b * 4294967296 + a : Nat) : Int) := by
  simp only [wrapUm]
  omega
theorem not_ge32 {q : Nat} (h : q < 4294967296) (hc : 4294967296 ≤ (q : Int)) : False := by omega
theorem wrap_nn {x : Int} (h : IntKind.wrap .u64 x < IntKind.wrap .u64 0) : False := by
  simp only [wrapUm] at h
  omega
theorem word_c (u a b : Nat) (h : a + b = u) (hu : u < 18446744073709551616) : IntKind.wrap .u64 ((u : Int) - (a : Int)) = (b : Int) := by
  simp only [wrapUm]
  omega
/-- the words of the division -/
theorem div_facts (u v yn1 : Nat) (hyn0 : 0 < yn1) (hYlt2 : yn1 * 4294967296 < 18446744073709551616) (hun : u < yn1 * 4294967296) (hvlt : v < 18446744073709551616) :
    IntKind.wrap .u64 (Int.tdiv (u : Int) (yn1 : Int)) = ((u / yn1 : Nat) : Int) ∧
    IntKind.wrap .u64 (((u / yn1 : Nat) : Int) * (yn1 : Int)) = ((yn1 * (u / yn1) : Nat) : Int) ∧
    IntKind.wrap .u64 ((u : Int) - ((yn1 * (u / yn1) : Nat) : Int)) = ((u % yn1 : Nat) : Int) ∧
    IntKind.wrap .u64 (IntKind.wrap .u64 (IntKind.wrap .u64 ((u : Int) * 4294967296) + ((v / 4294967296 : Nat) : Int)) - IntKind.wrap .u64 (((u / yn1 : Nat) : Int) * ((yn1 * 4294967296 : Nat) : Int))) = ((u % yn1 * 4294967296 + v / 4294967296 : Nat) : Int) ∧
    IntKind.wrap .u64 (Int.tdiv ((u % yn1 * 4294967296 + v / 4294967296 : Nat) : Int) (yn1 : Int)) = (((u % yn1 * 4294967296 + v / 4294967296) / yn1 : Nat) : Int) ∧
    IntKind.wrap .u64 (IntKind.wrap .u64 (((u / yn1 : Nat) : Int) * 4294967296) + (((u % yn1 * 4294967296 + v / 4294967296) / yn1 : Nat) : Int)) = ((u / yn1 * 4294967296 + (u % yn1 * 4294967296 + v / 4294967296) / yn1 : Nat) : Int) ∧
    u / yn1 < 4294967296 ∧ (u % yn1 * 4294967296 + v / 4294967296) / yn1 < 4294967296 ∧ u % yn1 < yn1 := by
  have hq1 : u / yn1 < 4294967296 := divlt hun
  have hr1 : u % yn1 < yn1 := Nat.mod_lt _ hyn0
  have hu64 : u < 18446744073709551616 := Nat.lt_trans hun hYlt2
  have hyn32 : yn1 < 4294967296 := by omega
  have hsum := Nat.div_add_mod u yn1
  have hle : yn1 * (u / yn1) ≤ u := Nat.mul_div_le _ _
  have h21 : u % yn1 * 4294967296 + v / 4294967296 < yn1 * 4294967296 := word_b _ v yn1 hr1 hvlt
  have hq0 : (u % yn1 * 4294967296 + v / 4294967296) / yn1 < 4294967296 := divlt h21
  have hm : ((u / yn1 : Nat) : Int) * ((yn1 * 4294967296 : Nat) : Int) = ((yn1 * (u / yn1) : Nat) : Int) * 4294967296 := by
    have c : ((4294967296 : Nat) : Int) = 4294967296 := by omega
    rw [Int.natCast_mul, Int.natCast_mul, ← Int.mul_assoc, Int.mul_comm ((u / yn1 : Nat) : Int), c]
  refine ⟨?_, ?_, ?_, ?_, ?_, ?_, hq1, hq0, hr1⟩
  · rw [← Int.ofNat_tdiv]
    exact wrapU _ (Nat.lt_trans hq1 (by decide))
  · rw [← Int.natCast_mul, Nat.mul_comm]
    exact wrapU _ (Nat.lt_of_le_of_lt hle hu64)
  · exact word_c u _ _ hsum hu64
  · simp only [hm]
    exact word_d u v _ _ hsum (Nat.lt_trans h21 hYlt2)
  · rw [← Int.ofNat_tdiv]
    exact wrapU _ (Nat.lt_trans hq0 (by decide))
  · exact word_e _ _ hq0 hq1

theorem or_add (a b s : Nat) (h : b < 2 ^ s) : a * 2 ^ s ||| b = a * 2 ^ s + b := by
  have := Nat.shiftLeft_add_eq_or_of_lt h a
  rw [Nat.shiftLeft_eq] at this
  exact this.symm

set_option maxHeartbeats 1000000 in
theorem c_Div64 (hi lo y : Nat) (hy : 0 < y) (hy2 : y < 4294967296) (hlt : hi < y) (hlo : lo < 18446744073709551616) :
    ∃ r : Int, FnC Try.prog 72 [uD hi, uD lo, uD y] (.tup [uD (((hi * 18446744073709551616 + lo) / y : Nat) : Int), uD r]) := by
  by_cases h0 : hi = 0
  · subst h0
    apply Exists.intro
    refine w72 _ _ _ ⟨fun h => absurd h (by omega), fun _ => ⟨fun h => absurd h (by omega), fun _ => ⟨fun _ => ⟨by omega, by omega, ?_⟩, fun h => absurd rfl h⟩⟩⟩
    have e : IntKind.wrap .u64 (Int.tdiv (lo : Int) (y : Int)) = (((0 * 18446744073709551616 + lo) / y : Nat) : Int) := by
      rw [Nat.zero_mul, Nat.zero_add, ← Int.ofNat_tdiv]
      exact wrapU _ (Nat.lt_of_le_of_lt (Nat.div_le_self _ _) hlo)
    rw [e]
  obtain ⟨a1, a2, a3⟩ := Lib.bitLenAux_bounds 64 y (by omega) (by omega)
  change 1 ≤ Lib.bitLen y at a1
  change 2 ^ (Lib.bitLen y - 1) ≤ y at a2
  change y < 2 ^ Lib.bitLen y at a3
  have hB : Lib.bitLen y ≤ 32 := by
    by_cases h : Lib.bitLen y ≤ 32
    · exact h
    · have : 2 ^ 32 ≤ 2 ^ (Lib.bitLen y - 1) := Nat.pow_le_pow_right (by omega) (by omega)
      omega
  have hlz := c_LZ y (by omega)
  generalize Lib.bitLen y = B at a1 a2 a3 hB hlz
  obtain ⟨s, hs⟩ : ∃ s, s = 64 - B := ⟨_, rfl⟩
  have hlz : FnC Try.prog 73 [uD y] (iD (s : Int)) := by
    have e : (64 : Int) - (B : Int) = (s : Int) := by omega
    rw [e] at hlz
    exact hlz
  have hs32 : 32 ≤ s := by omega
  have hs64 : s < 64 := by omega
  have hpp : 2 ^ s * 2 ^ B = 18446744073709551616 := by
    rw [← Nat.pow_add, show s + B = 64 by omega]
  have hsp : 2 ^ s = 2 ^ (s - 32) * 4294967296 := by
    rw [show (4294967296 : Nat) = 2 ^ 32 from rfl, ← Nat.pow_add, Nat.sub_add_cancel hs32]
  obtain ⟨yn1, hyn⟩ : ∃ yn1, yn1 = y * 2 ^ (s - 32) := ⟨_, rfl⟩
  have hY : y * 2 ^ s = yn1 * 4294967296 := by rw [hsp, hyn, Nat.mul_assoc]
  have hYlt : y * 2 ^ s < 18446744073709551616 := by
    rw [← hpp, Nat.mul_comm]
    exact Nat.mul_lt_mul_of_pos_left a3 (Nat.pow_pos (by omega))
  have hp : 0 < 2 ^ s := Nat.pow_pos (by omega)
  have hH : hi * 2 ^ s + 2 ^ s ≤ y * 2 ^ s := by
    have := Nat.mul_le_mul_right (2 ^ s) (show hi + 1 ≤ y from hlt)
    rw [Nat.add_mul, Nat.one_mul] at this
    exact this
  have h64 : 2 ^ (64 - s) * 2 ^ s = 18446744073709551616 := by
    rw [← Nat.pow_add, Nat.sub_add_cancel (by omega)]
  have hl : lo / 2 ^ (64 - s) < 2 ^ s := by
    refine Nat.div_lt_of_lt_mul ?_
    rw [h64]
    exact hlo
  have hH1 : hi * 2 ^ s < 18446744073709551616 := Nat.lt_of_le_of_lt (Nat.le_trans (Nat.le_add_right _ _) hH) hYlt
  have hun0 : hi * 2 ^ s + lo / 2 ^ (64 - s) < y * 2 ^ s := Nat.lt_of_lt_of_le (Nat.add_lt_add_left hl _) hH
  have hl1 : lo / 2 ^ (64 - s) < 18446744073709551616 := Nat.lt_of_le_of_lt (Nat.div_le_self _ _) hlo
  have hyn0 : 0 < yn1 := by
    have : 0 < y * 2 ^ s := Nat.mul_pos hy hp
    omega
  have hdiv := long_div hi lo y s hy (by omega) yn1 hY hlo
  obtain ⟨u, hu⟩ : ∃ u, u = hi * 2 ^ s + lo / 2 ^ (64 - s) := ⟨_, rfl⟩
  obtain ⟨v, hv⟩ : ∃ v, v = lo * 2 ^ s % 18446744073709551616 := ⟨_, rfl⟩
  rw [← hu, ← hv] at hdiv
  have hun : u < yn1 * 4294967296 := by rw [← hY, hu]; exact hun0
  have hYlt2 : yn1 * 4294967296 < 18446744073709551616 := by rw [← hY]; exact hYlt
  have hvlt : v < 18446744073709551616 := by rw [hv]; exact Nat.mod_lt _ (by omega)
  have hu64 : u < 18446744073709551616 := Nat.lt_trans hun hYlt2
  have hs1 : s < 18446744073709551616 := Nat.lt_trans hs64 (by omega)
  obtain ⟨F1, F2, F3, F4, F5, F6, F7, F8, F9⟩ := div_facts u v yn1 hyn0 hYlt2 hun hvlt
  have e1 : IntKind.wrap .u64 (s : Int) = (s : Int) := wrapU s hs1
  have e2 : min (s : Int).toNat (IntKind.bits .u64) = s := by
    show min (s : Int).toNat 64 = s
    rw [Int.toNat_natCast]
    exact Nat.min_eq_left (Nat.le_of_lt hs64)
  have e3 : IntKind.wrap .u64 (64 - (s : Int)) = ((64 - s : Nat) : Int) := by
    rw [show (64 : Int) - (s : Int) = ((64 - s : Nat) : Int) from (Int.ofNat_sub (Nat.le_of_lt hs64)).symm]
    exact wrapU _ (Nat.lt_of_le_of_lt (Nat.sub_le _ _) (by decide))
  have e4 : min ((64 - s : Nat) : Int).toNat (IntKind.bits .u64) = 64 - s := by
    show min ((64 - s : Nat) : Int).toNat 64 = 64 - s
    rw [Int.toNat_natCast]
    exact Nat.min_eq_left (Nat.sub_le _ _)
  have p2 : ∀ n : Nat, (2 : Int) ^ n = ((2 ^ n : Nat) : Int) := fun n => by push_cast; rfl
  have e5 : IntKind.wrap .u64 ((y : Int) * 2 ^ s) = ((yn1 * 4294967296 : Nat) : Int) := by
    rw [p2, ← Int.natCast_mul, hY]
    exact wrapU _ hYlt2
  have e6 : Int.fdiv ((yn1 * 4294967296 : Nat) : Int) (2 ^ 32) = (yn1 : Int) := fdiv32m yn1
  have e7 : IntKind.wrap .u64 ((hi : Int) * 2 ^ s) = ((hi * 2 ^ s : Nat) : Int) := by
    rw [p2, ← Int.natCast_mul]
    exact wrapU _ hH1
  have e8 : Int.fdiv (lo : Int) (2 ^ (64 - s)) = ((lo / 2 ^ (64 - s) : Nat) : Int) := by
    rw [p2, Int.fdiv_eq_ediv_of_nonneg _ (Int.natCast_nonneg _), Int.natCast_ediv]
  have e9 : IntKind.wrap .u64 (((BitVec.ofInt (IntKind.bits .u64) ((hi * 2 ^ s : Nat) : Int) ||| BitVec.ofInt (IntKind.bits .u64) ((lo / 2 ^ (64 - s) : Nat) : Int)).toNat : Nat) : Int) = (u : Int) := by
    rw [BitVec.toNat_or, bvU _ hH1, bvU _ hl1, or_add _ _ _ hl, ← hu]
    exact wrapU _ hu64
  have e10 : IntKind.wrap .u64 ((lo : Int) * 2 ^ s) = (v : Int) := by
    rw [p2, ← Int.natCast_mul, wrapUm, hv, Int.natCast_emod]
    rfl
  have e11 : Int.fdiv (v : Int) (2 ^ 32) = ((v / 4294967296 : Nat) : Int) := fdiv32 v
  have hy0 := and0b yn1 hYlt2
  have hne : (yn1 : Int) ≠ 0 := Int.natCast_ne_zero.2 (Nat.pos_iff_ne_zero.1 hyn0)
  rw [hdiv]
  apply Exists.intro
  refine w72 _ _ _ ⟨fun h => absurd h (Int.natCast_ne_zero.2 (Nat.pos_iff_ne_zero.1 hy)), fun _ => ⟨fun h => absurd h (Int.not_le.2 (Int.ofNat_lt.2 hlt)), fun _ => ⟨fun h => absurd h (Int.natCast_ne_zero.2 h0), fun _ => ⟨(s : Int), hlz, ?_⟩⟩⟩⟩
  simp only [e1, e2, e3, e4, e5, e6, e7, e8, e9, e10, e11, hy0, F1, F2, F3]
  refine ⟨Int.natCast_nonneg _, Int.natCast_nonneg _, Int.natCast_nonneg _, Int.natCast_nonneg _, hne, fun a b _ => a = ((u / yn1 : Nat) : Int) ∧ b = ((u % yn1 : Nat) : Int), ⟨0, rfl, rfl⟩, ?_⟩
  rintro k _ _ ⟨rfl, rfl⟩
  refine ⟨fun hc => ?_, fun _ => ?_⟩
  · exfalso
    rcases hc with hc | hc
    · exact not_ge32 F7 hc
    · rw [Int.mul_zero] at hc
      exact wrap_nn hc
  refine ⟨hne, ?_⟩
  simp only [F4, F5]
  refine ⟨fun a b _ => b = (((u % yn1 * 4294967296 + v / 4294967296) / yn1 : Nat) : Int), ⟨0, rfl⟩, ?_⟩
  rintro k' x6 _ rfl
  refine ⟨fun hc => ?_, fun _ => ?_⟩
  · exfalso
    rcases hc with hc | hc
    · exact not_ge32 F8 hc
    · rw [Int.mul_zero] at hc
      exact wrap_nn hc
  refine ⟨Int.natCast_nonneg _, ?_⟩
  simp only [F6]
  rfl
end Go.Proofs.Yteljlbgjpnfdjaa
namespace Go.Proofs.Yteljlbgjpnfdjaa
open Go.RowKit Go.IntWalk
set_option linter.unusedSimpArgs false
set_option linter.unusedVariables false

abbrev oCount : ByteArray := ⟨#[99, 111, 117, 110, 116]⟩
abbrev oSum : ByteArray := ⟨#[115, 117, 109]⟩
abbrev oTotal : ByteArray := ⟨#[116, 111, 116, 97, 108]⟩
abbrev oAvg : ByteArray := ⟨#[97, 118, 103]⟩
abbrev oMin : ByteArray := ⟨#[109, 105, 110]⟩
abbrev oMax : ByteArray := ⟨#[109, 97, 120]⟩
def IsOp (o : ByteArray) : Prop := o = oCount ∨ o = oSum ∨ o = oMin ∨ o = oMax ∨ o = oAvg ∨ o = oTotal
abbrev ND (o : ByteArray) : DV := .c (.v (.string o))
def OKv (v : V3) : Prop := Sz v.2.2 ∧ I64 v.2.1
theorem okv_at {K : List V3} (h : ∀ v ∈ K, OKv v) (i : Nat) : OKv (K.getD i nul) := by
  rw [List.getD_eq_getElem?_getD]
  by_cases hi : i < K.length
  · rw [List.getElem?_eq_getElem hi]
    exact h _ (List.getElem_mem hi)
  · rw [List.getElem?_eq_none (by omega)]
    exact ⟨by simp [Sz], by simp [I64]⟩

/-- P32.3 -/
def addL (num d : Bool) (K : List V3) (v : V3) : List V3 × Int :=
  if checkV v ≠ 0 then (K, checkV v) else if v.1 = 0 then (K, 0) else if num = true ∧ v.1 ≠ 1 then (K, 11) else if d = true ∧ (K.any fun x => cmpV x v 0 == 0) = true then (K, 0) else (K ++ [v], 0)

theorem ba_eq (a b : ByteArray) : (a.toList == b.toList) = true ↔ a = b := by
  have h : ∀ x : ByteArray, x = bs x.data.toList := fun x => by simp [bs]
  rw [h a, h b, bs_toList, bs_toList, bs_inj]
  simp
theorem ite_or (c : Prop) [Decidable c] (d : Bool) : (if c then true else d) = true ↔ c ∨ d = true := by
  split <;> simp_all
theorem any_iff (K : List V3) (v : V3) : (K.any fun x => cmpV x v 0 == 0) = true ↔ ∃ j, j < K.length ∧ cmpV (K.getD j nul) v 0 = 0 := by
  rw [List.any_eq_true]
  constructor
  · rintro ⟨x, hx, h⟩
    obtain ⟨j, hj, e⟩ := List.getElem_of_mem hx
    refine ⟨j, hj, ?_⟩
    rw [List.getD_eq_getElem?_getD, List.getElem?_eq_getElem hj, Option.getD_some, e]
    simpa using h
  · rintro ⟨j, hj, h⟩
    rw [List.getD_eq_getElem?_getD, List.getElem?_eq_getElem hj, Option.getD_some] at h
    exact ⟨_, List.getElem_mem hj, by simpa using h⟩
theorem vc_snoc (K : List V3) (v : V3) : vc K ++ [[.v (.int .i64 v.1), .v (.int .i64 v.2.1), .v (.string (bs v.2.2))]] = vc (K ++ [v]) := by simp [vc]
theorem wrap_up (i : Nat) (h : i < 9223372036854775807) : IntKind.wrap .i64 ((i : Int) + 1) = ((i + 1 : Nat) : Int) := by
  rw [IntKind.wrap_i64]; omega
end Go.Proofs.Yteljlbgjpnfdjaa
namespace Go.Proofs.Yteljlbgjpnfdjaa
open Go.RowKit Go.IntWalk
set_option linter.unusedSimpArgs false
set_option linter.unusedVariables false

theorem wrU (n : Int) : IntKind.wrap .u64 n = n % 18446744073709551616 := Eq.trans rfl rfl
def sumN (K : List V3) : Int := K.foldl (fun s v => s + v.2.1) 0
theorem sumN_snoc (K : List V3) (v : V3) : sumN (K ++ [v]) = sumN K + v.2.1 := by simp [sumN]
theorem take_up {K : List V3} {i : Nat} (h : i < K.length) : K.take (i + 1) = K.take i ++ [K.getD i nul] := by
  rw [List.take_succ_eq_append_getElem h, List.getD_eq_getElem?_getD, List.getElem?_eq_getElem h, Option.getD_some]
theorem sumN_bound (K : List V3) (h : ∀ v ∈ K, OKv v) : ∀ i : Nat, i ≤ K.length → -9223372036854775808 * (i : Int) ≤ sumN (K.take i) ∧ sumN (K.take i) ≤ 9223372036854775807 * (i : Int)
  | 0, _ => by simp [sumN]
  | i + 1, hi => by
    have h1 := sumN_bound K h i (by omega)
    have h2 := (okv_at h i).2
    rw [take_up (by omega), sumN_snoc]
    simp only [I64] at h2
    omega
abbrev uuD (n : Int) : DV := .c (.v (.int .u64 n))
/- the average -/
end Go.Proofs.Yteljlbgjpnfdjaa
namespace Go.Proofs.Yteljlbgjpnfdjaa
open Go.RowKit Go.IntWalk
set_option linter.unusedSimpArgs false
set_option linter.unusedVariables false

theorem wr64 {n : Int} (h : I64 n) : IntKind.wrap .i64 n = n := by
  rw [IntKind.wrap_i64]
  simp only [I64] at h
  omega
/- results -/
def bestF (mx : Bool) (b v : V3) : V3 := if (mx = false ∧ cmpV v b 0 < 0) ∨ (mx = true ∧ 0 < cmpV v b 0) then v else b
def bestL (mx : Bool) : List V3 → V3
  | [] => nul
  | a :: r => r.foldl (bestF mx) a
theorem bestL_snoc (mx : Bool) (K : List V3) (h : K ≠ []) (v : V3) : bestL mx (K ++ [v]) = bestF mx (bestL mx K) v := by
  cases K with
  | nil => exact absurd rfl h
  | cons a r => simp [bestL]
def endC (K : List V3) : V3 × Int := ((1, (K.length : Int), []), 0)
def endS (tot : Bool) (K : List V3) : V3 × Int := if K = [] then (if tot = true then (1, 0, []) else nul, 0) else if -9223372036854775808 ≤ sumN K ∧ sumN K ≤ 9223372036854775807 then ((1, sumN K, []), 0) else (nul, 9)
def endA (K : List V3) : V3 × Int := if K = [] then (nul, 0) else ((1, (sumN K).tdiv (K.length : Int), []), 0)
def endB (mx : Bool) (K : List V3) : V3 × Int := (bestL mx K, 0)
abbrev vdD (v : V3) (e : Int) : DV := .tup [vD v, iD e]
theorem sum_low (S : Int) (h : -9223372036854775808 ≤ S ∧ S ≤ 9223372036854775807) : IntKind.wrap .i64 (S % 18446744073709551616) = S := by
  rw [IntKind.wrap_i64]
  omega
end Go.Proofs.Yteljlbgjpnfdjaa
namespace Go.Proofs.Yteljlbgjpnfdjaa
open Go.RowKit Go.IntWalk
set_option linter.unusedSimpArgs false
set_option linter.unusedVariables false

def knownB (o : ByteArray) (n : Int) : Bool := (n == 1) || ((n == 0) && (o.toList == oCount.toList))
theorem c_Known (o : ByteArray) (n : Int) (h : IsOp o) : FnC Try.prog 8 [ND o, iD n] (bD (knownB o n)) := by
  have e : (if (n == 1) = true then true else (if (n == 0) = true then (o.toList == oCount.toList) else false)) = knownB o n := by
    unfold knownB
    by_cases h1 : n = 1 <;> by_cases h0 : n = 0 <;> simp [h1, h0]
  refine w8 o n ⟨fun _ => ?_, fun n1 => ⟨fun _ => ?_, fun n2 => ⟨fun _ => ?_, fun n3 => ⟨fun _ => ?_, fun n4 => ⟨fun _ => ?_, fun n5 => ⟨fun _ => ?_, fun n6 => ?_⟩⟩⟩⟩⟩⟩
  iterate 6 (· rw [← e])
  · unfold IsOp at h
    grind
/- sorted values -/
def SortV (H : List V3) : Prop := ∀ i j, i < j → j < H.length → cmpV (H.getD i nul) (H.getD j nul) 0 < 0
theorem c_cmp0 (a b : V3) (ha : Sz a.2.2) (hb : Sz b.2.2) : FnC Try.prog 37 [vD a, vD b] (iD (cmpV a b 0)) :=
  w37 a.1 a.2.1 (bs a.2.2) b.1 b.2.1 (bs b.2.2) ⟨_, c_vCompare a b 0 ha hb, rfl⟩
theorem mid_eq (i j : Nat) (h : i + j ≤ 9223372036854775807) : IntKind.wrap .i64 (Int.fdiv (IntKind.wrap .u64 (IntKind.wrap .i64 ((i : Int) + (j : Int)))) (2 ^ 1)) = (((i + j) / 2 : Nat) : Int) := by
  rw [wr64 (n := (i : Int) + (j : Int)) ⟨by omega, by omega⟩, wrU, Int.fdiv_eq_ediv_of_nonneg _ (by omega), IntKind.wrap_i64]
  omega
abbrev clD : DV := .c (.v (.func (.func 37) #[] #[]))
theorem c_place (H : List V3) (v : V3) (hH : ∀ x ∈ H, OKv x) (hv : Sz v.2.2) (hn : H.length ≤ 1048576) (hs : SortV H) :
    ∃ i : Nat, i ≤ H.length ∧ (∀ j, j < i → cmpV (H.getD j nul) v 0 < 0) ∧ (∀ j, i ≤ j → j < H.length → 0 ≤ cmpV (H.getD j nul) v 0) ∧
      FnC Try.prog 36 [.c (.vs (vc H)), vD v, clD] (.tup [iD (i : Int), bD (decide (i < H.length ∧ cmpV (H.getD i nul) v 0 = 0))]) := by
  have hO := fineO_cmpV 0
  obtain ⟨i, h1, h2, h3⟩ : ∃ i : Nat, i ≤ H.length ∧ (∀ j, j < i → cmpV (H.getD j nul) v 0 < 0) ∧ (∀ j, i ≤ j → j < H.length → 0 ≤ cmpV (H.getD j nul) v 0) := by
    have : ∀ n, n ≤ H.length → (∀ j, n ≤ j → j < H.length → 0 ≤ cmpV (H.getD j nul) v 0) → ∃ i : Nat, i ≤ H.length ∧ (∀ j, j < i → cmpV (H.getD j nul) v 0 < 0) ∧ (∀ j, i ≤ j → j < H.length → 0 ≤ cmpV (H.getD j nul) v 0) := by
      intro n
      induction n with
      | zero => intro _ h; exact ⟨0, by omega, fun j hj => by omega, h⟩
      | succ n ih =>
        intro hn h
        by_cases hc : 0 ≤ cmpV (H.getD n nul) v 0
        · refine ih (by omega) fun j hj hl => ?_
          by_cases e : j = n
          · rw [e]; exact hc
          · exact h j (by omega) hl
        · refine ⟨n + 1, hn, fun j hj => ?_, h⟩
          by_cases e : j = n
          · subst e; omega
          · have a := hs j n (by omega) (by omega)
            by_cases h0 : cmpV (H.getD j nul) v 0 < 0
            · exact h0
            · have b := hO.trans v (H.getD j nul) (H.getD n nul) (by have := hO.swap (H.getD j nul) v; omega) (by omega)
              have := hO.swap (H.getD n nul) v
              omega
    exact this H.length (Nat.le_refl _) fun j h1 h2 => by omega
  refine ⟨i, h1, h2, h3, ?_⟩
  have hcell : ∀ j : Nat, j < H.length → (.agg [.v (.int .i64 (cellAt (vc H) (j : Int) 0).int), .v (.int .i64 (cellAt (vc H) (j : Int) 1).int), .v (.string (cellAt (vc H) (j : Int) 2).str)] : DV) = vD (H.getD j nul) := fun j hj => by
    have := vc_vD H (j : Int) (by omega) (by omega)
    rwa [Int.toNat_natCast] at this
  refine w36_37 (vc H) v.1 v.2.1 (bs v.2.2) ⟨fun a b k => ∃ l h : Nat, a = (l : Int) ∧ b = (h : Int) ∧ l ≤ i ∧ i ≤ h ∧ h ≤ H.length ∧ k = h - l, ⟨H.length, 0, H.length, rfl, by rw [vc_len], by omega, h1, by omega, by omega⟩, ?_⟩
  rintro k _ _ ⟨l, h, rfl, rfl, hl, hh, hhn, rfl⟩
  refine ⟨fun hlt => ?_, fun hlt => ?_⟩
  · have hm : (l + h) / 2 < H.length := by omega
    rw [mid_eq l h (by omega)]
    refine ⟨⟨by omega, by rw [vc_len]; omega⟩, vc_sz H, vc_k H _ (by omega) (by omega), cmpV (H.getD ((l + h) / 2) nul) v 0, ?_, fun hc => ?_, fun hc => ?_⟩
    · rw [hcell _ hm]
      exact c_cmp0 _ _ (okv_at hH _).1 hv
    · refine ⟨h - ((l + h) / 2 + 1), by omega, (l + h) / 2 + 1, h, wrap_up _ (by omega), rfl, ?_, hh, hhn, rfl⟩
      by_cases e : (l + h) / 2 < i
      · exact e
      · have := h3 _ (by omega) hm
        omega
    · refine ⟨(l + h) / 2 - l, by omega, l, (l + h) / 2, rfl, rfl, hl, ?_, by omega, rfl⟩
      by_cases e : i ≤ (l + h) / 2
      · exact e
      · have := h2 ((l + h) / 2) (by omega)
        omega
  · have e : l = i := by omega
    subst e
    refine ⟨fun hc => ⟨by omega, hc⟩, fun _ => vc_sz H, fun hc => vc_k H _ (by omega) (by rw [vc_len] at hc; omega), cmpV (H.getD l nul) v 0, fun hc => ?_, ?_⟩
    · rw [hcell _ (by rw [vc_len] at hc; omega)]
      exact c_cmp0 _ _ (okv_at hH _).1 hv
    · rw [vc_len]
      by_cases hc : l < H.length <;> by_cases h0 : cmpV (H.getD l nul) v 0 = 0 <;> (try simp [hc, h0]) <;> (try rfl)

theorem ins_at (H : List V3) (v : V3) (i : Nat) (hi : i ≤ H.length) (j : Nat) : (H.take i ++ [v] ++ H.drop i).getD j nul = if j < i then H.getD j nul else if j = i then v else H.getD (j - 1) nul := by
  have hl : (H.take i).length = i := by rw [List.length_take]; omega
  simp only [List.getD_eq_getElem?_getD]
  split
  · rename_i h
    rw [List.append_assoc, List.getElem?_append_left (by omega), List.getElem?_take_of_lt h]
  · split
    · rename_i h1 h2
      subst h2
      rw [List.append_assoc, List.getElem?_append_right (by omega), hl, Nat.sub_self]
      simp
    · rename_i h1 h2
      rw [List.append_assoc, List.getElem?_append_right (by omega), hl, show j - i = (j - 1 - i) + 1 by omega]
      simp only [List.cons_append, List.nil_append, List.getElem?_cons_succ, List.getElem?_drop]
      rw [show i + (j - 1 - i) = j - 1 by omega]
theorem sort_ins {H : List V3} {v : V3} {i : Nat} (hs : SortV H) (hi : i ≤ H.length) (h2 : ∀ j, j < i → cmpV (H.getD j nul) v 0 < 0) (h3 : ∀ j, i ≤ j → j < H.length → 0 ≤ cmpV (H.getD j nul) v 0) (hne : ¬ (i < H.length ∧ cmpV (H.getD i nul) v 0 = 0)) :
    SortV (H.take i ++ [v] ++ H.drop i) := by
  have hO := fineO_cmpV 0
  have up : ∀ j, i ≤ j → j < H.length → cmpV v (H.getD j nul) 0 < 0 := fun j hj hl => by
    have h0 := h3 i (Nat.le_refl _) (by omega)
    have h1 : 0 < cmpV (H.getD i nul) v 0 := by
      by_cases e : cmpV (H.getD i nul) v 0 = 0
      · exact absurd ⟨by omega, e⟩ hne
      · omega
    by_cases e : j = i
    · subst e
      have := hO.swap (H.getD j nul) v
      omega
    · have h4 := hs i j (by omega) hl
      by_cases h5 : cmpV v (H.getD j nul) 0 < 0
      · exact h5
      · have s1 := hO.swap v (H.getD j nul)
        have s2 := hO.swap (H.getD i nul) v
        have := hO.trans (H.getD i nul) (H.getD j nul) v (by omega) (by omega)
        omega
  intro a b hab hb
  have hl : (H.take i ++ [v] ++ H.drop i).length = H.length + 1 := by simp; omega
  rw [hl] at hb
  rw [ins_at H v i hi, ins_at H v i hi]
  by_cases ha : a < i
  · rw [if_pos ha]
    by_cases h : b < i
    · rw [if_pos h]; exact hs a b hab (by omega)
    · rw [if_neg h]
      by_cases e : b = i
      · rw [if_pos e]; exact h2 a ha
      · rw [if_neg e]; exact hs a (b - 1) (by omega) (by omega)
  · rw [if_neg ha, if_neg (by omega : ¬ b < i), if_neg (by omega : ¬ b = i)]
    by_cases e : a = i
    · rw [if_pos e]; exact up _ (by omega) (by omega)
    · rw [if_neg e]; exact hs (a - 1) (b - 1) (by omega) (by omega)
theorem found_iff {H : List V3} {v : V3} {i : Nat} (hs : SortV H) (h2 : ∀ j, j < i → cmpV (H.getD j nul) v 0 < 0) (h3 : ∀ j, i ≤ j → j < H.length → 0 ≤ cmpV (H.getD j nul) v 0) : (i < H.length ∧ cmpV (H.getD i nul) v 0 = 0) ↔ (H.any fun x => cmpV x v 0 == 0) = true := by
  have hO := fineO_cmpV 0
  rw [any_iff]
  constructor
  · rintro ⟨h, e⟩; exact ⟨i, h, e⟩
  · rintro ⟨j, hj, e⟩
    by_cases h1 : j < i
    · have := h2 j h1; omega
    · by_cases h4 : j = i
      · subst h4; exact ⟨hj, e⟩
      · have a := hs i j (by omega) hj
        have b := hO.eq0 (c := v) e
        have s := hO.swap (H.getD i nul) (H.getD j nul)
        have s2 := hO.swap (H.getD i nul) v
        have t := hO.trans (H.getD j nul) v (H.getD i nul) (by omega)
        have u := h3 i (Nat.le_refl _) (by omega)
        have : cmpV v (H.getD i nul) 0 ≤ 0 := by omega
        have := t this
        omega
/-- what a distinct one has, against what came -/
def RelH (d : Bool) (K H : List V3) : Prop := (d = true → SortV H ∧ ∀ u, (H.any fun x => cmpV x u 0 == 0) = (K.any fun x => cmpV x u 0 == 0)) ∧ H.length ≤ K.length ∧ ∀ x ∈ H, OKv x
theorem relH_nil (d : Bool) : RelH d [] [] := ⟨fun _ => ⟨fun i j h hl => by simp at hl, fun u => rfl⟩, Nat.le_refl _, fun x h => by simp at h⟩
theorem relH_ins {K H : List V3} {v : V3} {i : Nat} (h : RelH true K H) (hv : OKv v) (hi : i ≤ H.length) (h2 : ∀ j, j < i → cmpV (H.getD j nul) v 0 < 0) (h3 : ∀ j, i ≤ j → j < H.length → 0 ≤ cmpV (H.getD j nul) v 0) (hne : ¬ (i < H.length ∧ cmpV (H.getD i nul) v 0 = 0)) :
    RelH true (K ++ [v]) (H.take i ++ [v] ++ H.drop i) := by
  refine ⟨fun _ => ⟨sort_ins (h.1 rfl).1 hi h2 h3 hne, fun u => ?_⟩, by have := h.2.1; simp; omega, fun x hx => ?_⟩
  · have e : (H.any fun x => cmpV x u 0 == 0) = (((H.take i).any fun x => cmpV x u 0 == 0) || ((H.drop i).any fun x => cmpV x u 0 == 0)) := by
      conv => lhs; rw [← List.take_append_drop i H, List.any_append]
    simp only [List.any_append]
    rw [← (h.1 rfl).2 u, e]
    cases (H.take i).any fun x => cmpV x u 0 == 0 <;> cases (H.drop i).any fun x => cmpV x u 0 == 0 <;> simp
  · simp only [List.append_assoc, List.mem_append, List.mem_singleton] at hx
    rcases hx with hx | rfl | hx
    · exact h.2.2 x (List.mem_of_mem_take hx)
    · exact hv
    · exact h.2.2 x (List.mem_of_mem_drop hx)
theorem relH_put {K H : List V3} {v : V3} (h : RelH false K H) : RelH false (K ++ [v]) H := ⟨(fun h => by cases h), by have := h.2.1; simp; omega, h.2.2⟩
theorem vc_ins (H : List V3) (v : V3) (i : Nat) : (vc H).take i ++ [[.v (.int .i64 v.1), .v (.int .i64 v.2.1), .v (.string (bs v.2.2))]] ++ (vc H).drop i = vc (H.take i ++ [v] ++ H.drop i) := by simp [vc]
theorem m_ins (H : List V3) (v : V3) (i : Nat) (hi : i ≤ H.length) (hn : H.length ≤ 1048576) :
    FnM Try.prog ⟨0, 33, 3, true⟩ 24 [.c (.vs (vc H)), iD (i : Int), .c (.vs [[.v (.int .i64 v.1), .v (.int .i64 v.2.1), .v (.string (bs v.2.2))]])] (.c (.vs (vc (H.take i ++ [v] ++ H.drop i)))) := by
  have := m_insert (vc H) [.v (.int .i64 v.1), .v (.int .i64 v.2.1), .v (.string (bs v.2.2))] i (by rw [vc_len]; exact hi) rfl (by rw [vc_len]; omega)
  rw [vc_ins] at this
  exact this
end Go.Proofs.Yteljlbgjpnfdjaa
namespace Go.Proofs.Yteljlbgjpnfdjaa
open Go.RowKit Go.IntWalk
set_option linter.unusedSimpArgs false
set_option linter.unusedVariables false

theorem addL_bad {num d : Bool} {K : List V3} {v : V3} (h : checkV v ≠ 0) : addL num d K v = (K, checkV v) := by unfold addL; rw [if_pos h]
theorem addL_nul {num d : Bool} {K : List V3} {v : V3} (h1 : ¬ checkV v ≠ 0) (h2 : v.1 = 0) : addL num d K v = (K, 0) := by unfold addL; rw [if_neg h1, if_pos h2]
theorem addL_num {d : Bool} {K : List V3} {v : V3} (h1 : ¬ checkV v ≠ 0) (h2 : ¬ v.1 = 0) (h3 : ¬ v.1 = 1) : addL true d K v = (K, 11) := by unfold addL; rw [if_neg h1, if_neg h2, if_pos ⟨rfl, h3⟩]
theorem addL_dup {num : Bool} {K : List V3} {v : V3} (h1 : ¬ checkV v ≠ 0) (h2 : ¬ v.1 = 0) (h3 : ¬ (num = true ∧ v.1 ≠ 1)) (h4 : (K.any fun x => cmpV x v 0 == 0) = true) : addL num true K v = (K, 0) := by unfold addL; rw [if_neg h1, if_neg h2, if_neg h3, if_pos ⟨rfl, h4⟩]
theorem addL_putT {num : Bool} {K : List V3} {v : V3} (h1 : ¬ checkV v ≠ 0) (h2 : ¬ v.1 = 0) (h3 : ¬ (num = true ∧ v.1 ≠ 1)) (h4 : ¬ (K.any fun x => cmpV x v 0 == 0) = true) : addL num true K v = (K ++ [v], 0) := by unfold addL; rw [if_neg h1, if_neg h2, if_neg h3, if_neg (fun h => h4 h.2)]
theorem addL_putF {num : Bool} {K : List V3} {v : V3} (h1 : ¬ checkV v ≠ 0) (h2 : ¬ v.1 = 0) (h3 : ¬ (num = true ∧ v.1 ≠ 1)) : addL num false K v = (K ++ [v], 0) := by unfold addL; rw [if_neg h1, if_neg h2, if_neg h3, if_neg (fun h => by cases h.1)]

/-- P32.5: what has come, as far as no value is refused -/
def stL (num d : Bool) (l : List V3) : Nat → List V3 × Int
  | 0 => ([], 0)
  | i + 1 => if (stL num d l i).2 ≠ 0 then stL num d l i else addL num d (stL num d l i).1 (l.getD i nul)
theorem stL_up {num d : Bool} {l : List V3} {i : Nat} {K : List V3} (h : stL num d l i = (K, 0)) : stL num d l (i + 1) = addL num d K (l.getD i nul) := by
  rw [stL, h]
  simp
theorem stL_stop {num d : Bool} {l : List V3} {i : Nat} (h : (stL num d l i).2 ≠ 0) : ∀ j, i ≤ j → stL num d l j = stL num d l i := by
  intro j hj
  induction j with
  | zero => rw [show i = 0 by omega]
  | succ j ih =>
    by_cases e : i = j + 1
    · rw [e]
    · rw [stL, if_pos (by rw [ih (by omega)]; exact h)]
      exact ih (by omega)
def ofL (num : Bool) (E : List V3 → V3 × Int) (d : Bool) (l : List V3) : V3 × Int := if (stL num d l l.length).2 ≠ 0 then (nul, (stL num d l l.length).2) else E (stL num d l l.length).1
theorem ofL_bad {num d : Bool} {E : List V3 → V3 × Int} {l : List V3} {i : Nat} {K : List V3} {e : Int} (hi : i ≤ l.length) (h : stL num d l i = (K, e)) (he : e ≠ 0) : ofL num E d l = (nul, e) := by
  have := stL_stop (num := num) (d := d) (l := l) (i := i) (by rw [h]; exact he) l.length hi
  unfold ofL
  rw [this, h, if_pos he]
theorem ofL_end {num d : Bool} {E : List V3 → V3 × Int} {l : List V3} {K : List V3} (h : stL num d l l.length = (K, 0)) : ofL num E d l = E K := by
  unfold ofL
  rw [h]
  simp
theorem cells_v (l : List V3) (i : Nat) (h : i < l.length) : (cellAt (vc l) (i : Int) 0).int = (l.getD i nul).1 ∧ (cellAt (vc l) (i : Int) 1).int = (l.getD i nul).2.1 ∧ (cellAt (vc l) (i : Int) 2).str = bs (l.getD i nul).2.2 := by
  have h0 := vc_0 l (i : Int) (by omega) (by omega)
  have h1 := vc_1 l (i : Int) (by omega) (by omega)
  have h2 := vc_2 l (i : Int) (by omega) (by omega)
  rw [Int.toNat_natCast] at h0 h1 h2
  exact ⟨h0, h1, h2⟩
theorem ok_snoc {K : List V3} {v : V3} (hK : ∀ x ∈ K, OKv x) (hv : OKv v) : ∀ x ∈ K ++ [v], OKv x := by
  intro x hx
  rcases List.mem_append.1 hx with h | h
  · exact hK x h
  · rw [List.mem_singleton.1 h]; exact hv
/- one more value in a sum of two words -/
theorem add_words (S N : Int) (hN : I64 N) (hb : -9671406556917033397649408 ≤ S ∧ S ≤ 9671406556917033397649408) :
    (S % 18446744073709551616 + IntKind.wrap .u64 N + 0) % 18446744073709551616 = (S + N) % 18446744073709551616 ∧
    IntKind.wrap .i64 (S / 18446744073709551616 + IntKind.wrap .i64 (Int.fdiv N (2 ^ 63) + IntKind.wrap .i64 ((S % 18446744073709551616 + IntKind.wrap .u64 N + 0) / 18446744073709551616))) = (S + N) / 18446744073709551616 := by
  have hf : Int.fdiv N (2 ^ 63) = if N < 0 then -1 else 0 := by
    rw [Int.fdiv_eq_ediv_of_nonneg _ (by omega)]
    simp only [I64] at hN
    split <;> omega
  rw [hf, wrU]
  simp only [IntKind.wrap_i64, I64] at hN ⊢
  refine ⟨by omega, ?_⟩
  split <;> omega
theorem fits_iff (S : Int) (hb : -9671406556917033397649408 ≤ S ∧ S ≤ 9671406556917033397649408) : S / 18446744073709551616 = Int.fdiv (IntKind.wrap .i64 (S % 18446744073709551616)) (2 ^ 63) ↔ (-9223372036854775808 ≤ S ∧ S ≤ 9223372036854775807) := by
  rw [Int.fdiv_eq_ediv_of_nonneg _ (by omega), IntKind.wrap_i64]
  omega
end Go.Proofs.Yteljlbgjpnfdjaa
namespace Go.Proofs.Yteljlbgjpnfdjaa
open Go.RowKit Go.IntWalk
set_option linter.unusedSimpArgs false
set_option linter.unusedVariables false

theorem avg_pos (S : Int) (n : Nat) (hS : S ≤ 9223372036854775807 * (n : Int)) (h : 0 ≤ S) (hn : 0 < n) (hn2 : n ≤ 1048576) :
    ∃ q r : Int, FnC Try.prog 72 [uuD (IntKind.wrap .u64 (S / 18446744073709551616)), uuD (S % 18446744073709551616), uuD (IntKind.wrap .u64 (n : Int))] (.tup [uuD q, uuD r]) ∧ IntKind.wrap .i64 q = S.tdiv (n : Int) := by
  obtain ⟨P, rfl⟩ : ∃ P : Nat, S = (P : Int) := ⟨S.toNat, by omega⟩
  have hP : P ≤ 9223372036854775807 * n := by omega
  have h1 : IntKind.wrap .u64 ((P : Int) / 18446744073709551616) = ((P / 18446744073709551616 : Nat) : Int) := by rw [wrU]; omega
  have h2 : (P : Int) % 18446744073709551616 = ((P % 18446744073709551616 : Nat) : Int) := by omega
  have h3 : IntKind.wrap .u64 (n : Int) = ((n : Nat) : Int) := by rw [wrU]; omega
  have hlt : P / 18446744073709551616 < n := by omega
  obtain ⟨r, hr⟩ := c_Div64 (P / 18446744073709551616) (P % 18446744073709551616) n hn (by omega) hlt (Nat.mod_lt _ (by omega))
  have e : P / 18446744073709551616 * 18446744073709551616 + P % 18446744073709551616 = P := by omega
  rw [e] at hr
  rw [h1, h2, h3]
  refine ⟨_, r, hr, ?_⟩
  rw [← Int.ofNat_tdiv]
  have hq : P / n ≤ 9223372036854775807 := Nat.div_le_of_le_mul (by rw [Nat.mul_comm]; exact hP)
  generalize P / n = q at hq
  clear hr hlt e h1 h2 h3 hP
  rw [IntKind.wrap_i64]
  omega
theorem avg_neg (S : Int) (n : Nat) (hS : -9223372036854775808 * (n : Int) ≤ S) (h : S < 0) (hn : 0 < n) (hn2 : n ≤ 1048576) :
    ∃ a b c d q r : Int, FnC Try.prog 71 [uuD 0, uuD (S % 18446744073709551616), uuD 0] (.tup [uuD a, uuD b]) ∧ FnC Try.prog 71 [uuD 0, uuD (IntKind.wrap .u64 (S / 18446744073709551616)), uuD b] (.tup [uuD c, uuD d]) ∧
      FnC Try.prog 72 [uuD c, uuD a, uuD (IntKind.wrap .u64 (n : Int))] (.tup [uuD q, uuD r]) ∧ IntKind.wrap .i64 (0 - IntKind.wrap .i64 q) = S.tdiv (n : Int) := by
  obtain ⟨P, rfl⟩ : ∃ P : Nat, S = -(P : Int) := ⟨(-S).toNat, by omega⟩
  have hP : P ≤ 9223372036854775808 * n := by omega
  obtain ⟨l, hl⟩ : ∃ l : Nat, -(P : Int) % 18446744073709551616 = (l : Int) := ⟨(-(P : Int) % 18446744073709551616).toNat, by omega⟩
  obtain ⟨m, hm⟩ : ∃ m : Nat, IntKind.wrap .u64 (-(P : Int) / 18446744073709551616) = (m : Int) := ⟨(IntKind.wrap .u64 (-(P : Int) / 18446744073709551616)).toNat, by rw [wrU]; omega⟩
  have h3 : IntKind.wrap .u64 (n : Int) = ((n : Nat) : Int) := by rw [wrU]; omega
  have s1 := c_Sub64 0 l 0 (by omega)
  have s2 := c_Sub64 0 m (if 0 < l + 0 then 1 else 0) (by split <;> omega)
  have e1 : (0 + 18446744073709551616 - l - 0) % 18446744073709551616 = P % 18446744073709551616 := by omega
  have e2 : (0 + 18446744073709551616 - m - (if 0 < l + 0 then 1 else 0)) % 18446744073709551616 = P / 18446744073709551616 := by
    rw [wrU] at hm
    split <;> omega
  have hlt : P / 18446744073709551616 < n := by omega
  obtain ⟨r, hr⟩ := c_Div64 (P / 18446744073709551616) (P % 18446744073709551616) n hn (by omega) hlt (Nat.mod_lt _ (by omega))
  have e : P / 18446744073709551616 * 18446744073709551616 + P % 18446744073709551616 = P := by omega
  rw [e] at hr
  rw [e1] at s1
  rw [e2] at s2
  rw [hl, hm, h3]
  refine ⟨_, _, _, _, _, r, s1, s2, hr, ?_⟩
  rw [Int.neg_tdiv, ← Int.ofNat_tdiv]
  have hq : P / n ≤ 9223372036854775808 := Nat.div_le_of_le_mul (by rw [Nat.mul_comm]; exact hP)
  generalize P / n = q at hq
  clear hr hlt e h3 hP s1 s2 e1 e2 hl hm
  rw [IntKind.wrap_i64, IntKind.wrap_i64]
  omega
theorem best_put (mx : Bool) (K : List V3) (v : V3) : bestL mx (K ++ [v]) = if K = [] ∨ (mx = false ∧ cmpV v (bestL mx K) 0 < 0) ∨ (mx = true ∧ 0 < cmpV v (bestL mx K) 0) then v else bestL mx K := by
  by_cases h : K = []
  · subst h; rfl
  · rw [bestL_snoc mx K h]
    unfold bestF
    simp [h]
theorem best_mem (mx : Bool) (K : List V3) (h : K ≠ []) : bestL mx K ∈ K := by
  cases K with
  | nil => exact absurd rfl h
  | cons a r =>
    have : ∀ (r : List V3) (a : V3), r.foldl (bestF mx) a ∈ a :: r := by
      intro r
      induction r with
      | nil => intro a; simp
      | cons b r ih =>
        intro a
        rw [List.foldl_cons]
        have h1 := ih (bestF mx a b)
        have h2 : bestF mx a b = a ∨ bestF mx a b = b := by
          unfold bestF
          split
          · exact .inr rfl
          · exact .inl rfl
        rcases List.mem_cons.1 h1 with h1 | h1
        · rw [h1]
          rcases h2 with h2 | h2 <;> rw [h2] <;> simp
        · simp [h1]
    exact this r a
theorem best_sz (mx : Bool) (K : List V3) (hK : ∀ x ∈ K, OKv x) : Sz (bestL mx K).2.2 := by
  by_cases h : K = []
  · subst h; simp [bestL, Sz]
  · exact (hK _ (best_mem mx K h)).1
theorem some_put {K : List V3} {v : V3} (h : K ≠ []) : (!K.isEmpty) = (!(K ++ [v]).isEmpty) := by
  cases K with
  | nil => exact absurd rfl h
  | cons a r => rfl
theorem sum_b (K : List V3) (hK : ∀ v ∈ K, OKv v) (hn : K.length ≤ 1048576) : -9223372036854775808 * (K.length : Int) ≤ sumN K ∧ sumN K ≤ 9223372036854775807 * (K.length : Int) := by
  have := sumN_bound K hK K.length (Nat.le_refl _)
  rwa [List.take_length] at this
theorem sum_bb (K : List V3) (hK : ∀ v ∈ K, OKv v) (hn : K.length ≤ 1048576) : -9671406556917033397649408 ≤ sumN K ∧ sumN K ≤ 9671406556917033397649408 := by
  have := sum_b K hK hn
  omega
end Go.Proofs.Yteljlbgjpnfdjaa
namespace Go.Proofs.Yteljlbgjpnfdjaa
open Go.RowKit Go.IntWalk
set_option linter.unusedSimpArgs false
set_option linter.unusedVariables false

set_option maxHeartbeats 1000000 in
theorem c_Of_count (d : Bool) (l : List V3) (hl : ∀ v ∈ l, OKv v) (hn : l.length ≤ 1048576) : FnC Try.prog 10 [ND oCount, bD d, .c (.vs (vc l))] (vdD (ofL false endC d l).1 (ofL false endC d l).2) := by
  refine w10 oCount d (vc l) ⟨fun _ => ?_, fun h => absurd rfl h⟩
  refine ⟨fun x3 n xh k => ∃ (i : Nat) (K H : List V3), x3 = (i : Int) ∧ i ≤ l.length ∧ k = l.length - i ∧ stL false d l i = (K, 0) ∧ (∀ v ∈ K, OKv v) ∧ K.length ≤ i ∧ RelH d K H ∧ xh = vc H ∧ n = (K.length : Int), ⟨l.length, 0, [], [], rfl, by omega, rfl, rfl, (fun v h => by simp at h), by simp, relH_nil d, rfl, rfl⟩, ?_⟩
  rintro k _ _ _ ⟨i, K, H, rfl, hi, rfl, hst, hK, hKl, hR, rfl, rfl⟩
  refine ⟨fun hlt => ?_, fun hlt => ?_⟩
  · have hil : i < l.length := by rw [vc_len] at hlt; omega
    obtain ⟨e0, e1, e2⟩ := cells_v l i hil
    have hv := okv_at hl i
    have hup := stL_up hst
    have hwu := wrap_up i (by omega)
    simp only [e0, e1, e2]
    clear e0 e1 e2
    generalize l.getD i nul = v at *
    refine ⟨⟨by omega, hlt⟩, vc_sz l, vc_k l _ (by omega) (by omega), checkV v, c_vCheck v, fun h1 => ⟨fun _ => ?_, fun h => absurd h1 h⟩, fun h1 => ⟨fun h2 => ?_, fun h2 => ?_⟩⟩
    · rw [addL_bad h1] at hup
      rw [ofL_bad (by omega) hup h1]
      rfl
    · rw [addL_nul h1 h2] at hup
      exact ⟨l.length - (i + 1), by omega, i + 1, K, H, hwu, by omega, rfl, hup, hK, by omega, hR, rfl, rfl⟩
    have h3' : ¬ (false = true ∧ v.1 ≠ 1) := fun h => by cases h.1
    refine ⟨fun _ => ?_, fun _ => ?_⟩
    all_goals
      refine ⟨fun hd => ?_, fun hd => ?_⟩
      · subst hd
        obtain ⟨j, hj, p2, p3, hp⟩ := c_place H v hR.2.2 hv.1 (by have := hR.2.1; omega) (hR.1 rfl).1
        refine ⟨(j : Int), _, hp, fun hf => ?_, fun hf => ?_⟩
        · rw [addL_dup h1 h2 h3' (by rw [← (hR.1 rfl).2 v]; exact (found_iff (hR.1 rfl).1 p2 p3).1 (of_decide_eq_true hf))] at hup
          exact ⟨l.length - (i + 1), by omega, i + 1, K, H, hwu, by omega, rfl, hup, hK, by omega, hR, rfl, rfl⟩
        · have hne : ¬ (j < H.length ∧ cmpV (H.getD j nul) v 0 = 0) := fun h => hf (decide_eq_true h)
          rw [addL_putT h1 h2 h3' (by rw [← (hR.1 rfl).2 v]; exact fun h => hne ((found_iff (hR.1 rfl).1 p2 p3).2 h))] at hup
          rintro _ rfl
          refine ⟨_, m_ins H v j hj (by have := hR.2.1; omega), ?_⟩
          have hR' := relH_ins hR hv hj p2 p3 hne
          generalize H.take j ++ [v] ++ H.drop j = H' at *
          exact ⟨l.length - (i + 1), by omega, i + 1, (K ++ [v]), H', hwu, by omega, rfl, hup, ok_snoc hK hv, by simp; omega, hR', rfl, by rw [wrap_up K.length (by omega)]; simp⟩
      · have hd : d = false := by simpa using hd
        subst hd
        rw [addL_putF h1 h2 h3'] at hup
        have hR' := relH_put (v := v) hR
        exact ⟨l.length - (i + 1), by omega, i + 1, (K ++ [v]), H, hwu, by omega, rfl, hup, ok_snoc hK hv, by simp; omega, hR', rfl, by rw [wrap_up K.length (by omega)]; simp⟩
  · have hil : i = l.length := by rw [vc_len] at hlt; omega
    subst hil
    rw [ofL_end hst]
    exact ⟨1, (K.length : Int), bs [], c_vNum _, rfl⟩

set_option maxHeartbeats 1000000 in
theorem c_Of_sum (d : Bool) (l : List V3) (hl : ∀ v ∈ l, OKv v) (hn : l.length ≤ 1048576) : FnC Try.prog 10 [ND oSum, bD d, .c (.vs (vc l))] (vdD (ofL true (endS false) d l).1 (ofL true (endS false) d l).2) := by
  refine w10 oSum d (vc l) ⟨fun h => absurd h (by decide), fun _ => ⟨fun _ => ?_, fun h => absurd rfl h⟩⟩
  refine ⟨fun x3 a b s xh k => ∃ (i : Nat) (K H : List V3), x3 = (i : Int) ∧ i ≤ l.length ∧ k = l.length - i ∧ stL true d l i = (K, 0) ∧ (∀ v ∈ K, OKv v) ∧ K.length ≤ i ∧ RelH d K H ∧ xh = vc H ∧ a = sumN K / 18446744073709551616 ∧ b = sumN K % 18446744073709551616 ∧ s = !K.isEmpty, ⟨l.length, 0, [], [], rfl, by omega, rfl, rfl, (fun v h => by simp at h), by simp, relH_nil d, rfl, rfl, rfl, rfl⟩, ?_⟩
  rintro k _ _ _ _ _ ⟨i, K, H, rfl, hi, rfl, hst, hK, hKl, hR, rfl, rfl, rfl, rfl⟩
  have hb := sum_bb K hK (by omega)
  refine ⟨fun hlt => ?_, fun hlt => ?_⟩
  · have hil : i < l.length := by rw [vc_len] at hlt; omega
    obtain ⟨e0, e1, e2⟩ := cells_v l i hil
    have hv := okv_at hl i
    have hup := stL_up hst
    have hwu := wrap_up i (by omega)
    simp only [e0, e1, e2]
    clear e0 e1 e2
    generalize l.getD i nul = v at *
    refine ⟨⟨by omega, hlt⟩, vc_sz l, vc_k l _ (by omega) (by omega), checkV v, c_vCheck v, fun h1 => ⟨fun _ => ?_, fun h => absurd h1 h⟩, fun h1 => ⟨fun h2 => ?_, fun h2 => ?_⟩⟩
    · rw [addL_bad h1] at hup
      rw [ofL_bad (by omega) hup h1]
      rfl
    · rw [addL_nul h1 h2] at hup
      exact ⟨l.length - (i + 1), by omega, i + 1, K, H, hwu, by omega, rfl, hup, hK, by omega, hR, rfl, rfl, rfl, rfl⟩
    refine ⟨fun h3 => ?_, fun h3 => ?_⟩
    · rw [addL_num h1 h2 h3] at hup
      rw [ofL_bad (by omega) hup (by decide)]
      rfl
    have h3' : ¬ (true = true ∧ v.1 ≠ 1) := fun h => h.2 (Classical.not_not.1 h3)
    refine ⟨fun hd => ?_, fun hd => ?_⟩
    · subst hd
      obtain ⟨j, hj, p2, p3, hp⟩ := c_place H v hR.2.2 hv.1 (by have := hR.2.1; omega) (hR.1 rfl).1
      refine ⟨(j : Int), _, hp, fun hf => ?_, fun hf => ?_⟩
      · rw [addL_dup h1 h2 h3' (by rw [← (hR.1 rfl).2 v]; exact (found_iff (hR.1 rfl).1 p2 p3).1 (of_decide_eq_true hf))] at hup
        exact ⟨l.length - (i + 1), by omega, i + 1, K, H, hwu, by omega, rfl, hup, hK, by omega, hR, rfl, rfl, rfl, rfl⟩
      · have hne : ¬ (j < H.length ∧ cmpV (H.getD j nul) v 0 = 0) := fun h => hf (decide_eq_true h)
        rw [addL_putT h1 h2 h3' (by rw [← (hR.1 rfl).2 v]; exact fun h => hne ((found_iff (hR.1 rfl).1 p2 p3).2 h))] at hup
        rintro _ rfl
        refine ⟨_, m_ins H v j hj (by have := hR.2.1; omega), ?_⟩
        have hR' := relH_ins hR hv hj p2 p3 hne
        generalize H.take j ++ [v] ++ H.drop j = H' at *
        obtain ⟨w1, w2⟩ := add_words (sumN K) v.2.1 hv.2 hb
        exact ⟨_, _, c_Add64 _ _ 0 (Int.emod_nonneg _ (by decide)) (by rw [wrU]; exact Int.emod_nonneg _ (by decide)) (by omega) (by omega), l.length - (i + 1), by omega, i + 1, K ++ [v], H', hwu, by omega, rfl, hup, ok_snoc hK hv, by simp; omega, hR', rfl, by rw [sumN_snoc]; exact w2, by rw [sumN_snoc]; exact w1, by simp⟩
    · have hd : d = false := by simpa using hd
      subst hd
      rw [addL_putF h1 h2 h3'] at hup
      have hR' := relH_put (v := v) hR
      obtain ⟨w1, w2⟩ := add_words (sumN K) v.2.1 hv.2 hb
      exact ⟨_, _, c_Add64 _ _ 0 (Int.emod_nonneg _ (by decide)) (by rw [wrU]; exact Int.emod_nonneg _ (by decide)) (by omega) (by omega), l.length - (i + 1), by omega, i + 1, K ++ [v], H, hwu, by omega, rfl, hup, ok_snoc hK hv, by simp; omega, hR', rfl, by rw [sumN_snoc]; exact w2, by rw [sumN_snoc]; exact w1, by simp⟩
  · have hil : i = l.length := by rw [vc_len] at hlt; omega
    subst hil
    rw [ofL_end hst]
    refine ⟨fun hs => ?_, fun hs => ?_⟩
    · have hK0 : K = [] := by simpa using hs
      subst hK0
      rfl
    · have hK0 : K ≠ [] := by simpa using hs
      refine ⟨fun hf => ?_, fun hf => ⟨1, _, bs [], c_vNum _, ?_⟩⟩
      · unfold endS
        rw [if_neg hK0, if_neg (fun h => hf ((fits_iff _ hb).2 h))]
        rfl
      · have hfit := (fits_iff _ hb).1 (Classical.not_not.1 hf)
        unfold endS
        rw [if_neg hK0, if_pos hfit, sum_low _ hfit]

set_option maxHeartbeats 1000000 in
theorem c_Of_total (d : Bool) (l : List V3) (hl : ∀ v ∈ l, OKv v) (hn : l.length ≤ 1048576) : FnC Try.prog 10 [ND oTotal, bD d, .c (.vs (vc l))] (vdD (ofL true (endS true) d l).1 (ofL true (endS true) d l).2) := by
  refine w10 oTotal d (vc l) ⟨fun h => absurd h (by decide), fun _ => ⟨fun h => absurd h (by decide), fun _ => ⟨fun _ => ?_, fun h => absurd rfl h⟩⟩⟩
  refine ⟨fun x3 a b s xh k => ∃ (i : Nat) (K H : List V3), x3 = (i : Int) ∧ i ≤ l.length ∧ k = l.length - i ∧ stL true d l i = (K, 0) ∧ (∀ v ∈ K, OKv v) ∧ K.length ≤ i ∧ RelH d K H ∧ xh = vc H ∧ a = sumN K / 18446744073709551616 ∧ b = sumN K % 18446744073709551616 ∧ s = !K.isEmpty, ⟨l.length, 0, [], [], rfl, by omega, rfl, rfl, (fun v h => by simp at h), by simp, relH_nil d, rfl, rfl, rfl, rfl⟩, ?_⟩
  rintro k _ _ _ _ _ ⟨i, K, H, rfl, hi, rfl, hst, hK, hKl, hR, rfl, rfl, rfl, rfl⟩
  have hb := sum_bb K hK (by omega)
  refine ⟨fun hlt => ?_, fun hlt => ?_⟩
  · have hil : i < l.length := by rw [vc_len] at hlt; omega
    obtain ⟨e0, e1, e2⟩ := cells_v l i hil
    have hv := okv_at hl i
    have hup := stL_up hst
    have hwu := wrap_up i (by omega)
    simp only [e0, e1, e2]
    clear e0 e1 e2
    generalize l.getD i nul = v at *
    refine ⟨⟨by omega, hlt⟩, vc_sz l, vc_k l _ (by omega) (by omega), checkV v, c_vCheck v, fun h1 => ⟨fun _ => ?_, fun h => absurd h1 h⟩, fun h1 => ⟨fun h2 => ?_, fun h2 => ?_⟩⟩
    · rw [addL_bad h1] at hup
      rw [ofL_bad (by omega) hup h1]
      rfl
    · rw [addL_nul h1 h2] at hup
      exact ⟨l.length - (i + 1), by omega, i + 1, K, H, hwu, by omega, rfl, hup, hK, by omega, hR, rfl, rfl, rfl, rfl⟩
    refine ⟨fun h3 => ?_, fun h3 => ?_⟩
    · rw [addL_num h1 h2 h3] at hup
      rw [ofL_bad (by omega) hup (by decide)]
      rfl
    have h3' : ¬ (true = true ∧ v.1 ≠ 1) := fun h => h.2 (Classical.not_not.1 h3)
    refine ⟨fun hd => ?_, fun hd => ?_⟩
    · subst hd
      obtain ⟨j, hj, p2, p3, hp⟩ := c_place H v hR.2.2 hv.1 (by have := hR.2.1; omega) (hR.1 rfl).1
      refine ⟨(j : Int), _, hp, fun hf => ?_, fun hf => ?_⟩
      · rw [addL_dup h1 h2 h3' (by rw [← (hR.1 rfl).2 v]; exact (found_iff (hR.1 rfl).1 p2 p3).1 (of_decide_eq_true hf))] at hup
        exact ⟨l.length - (i + 1), by omega, i + 1, K, H, hwu, by omega, rfl, hup, hK, by omega, hR, rfl, rfl, rfl, rfl⟩
      · have hne : ¬ (j < H.length ∧ cmpV (H.getD j nul) v 0 = 0) := fun h => hf (decide_eq_true h)
        rw [addL_putT h1 h2 h3' (by rw [← (hR.1 rfl).2 v]; exact fun h => hne ((found_iff (hR.1 rfl).1 p2 p3).2 h))] at hup
        rintro _ rfl
        refine ⟨_, m_ins H v j hj (by have := hR.2.1; omega), ?_⟩
        have hR' := relH_ins hR hv hj p2 p3 hne
        generalize H.take j ++ [v] ++ H.drop j = H' at *
        obtain ⟨w1, w2⟩ := add_words (sumN K) v.2.1 hv.2 hb
        exact ⟨_, _, c_Add64 _ _ 0 (Int.emod_nonneg _ (by decide)) (by rw [wrU]; exact Int.emod_nonneg _ (by decide)) (by omega) (by omega), l.length - (i + 1), by omega, i + 1, K ++ [v], H', hwu, by omega, rfl, hup, ok_snoc hK hv, by simp; omega, hR', rfl, by rw [sumN_snoc]; exact w2, by rw [sumN_snoc]; exact w1, by simp⟩
    · have hd : d = false := by simpa using hd
      subst hd
      rw [addL_putF h1 h2 h3'] at hup
      have hR' := relH_put (v := v) hR
      obtain ⟨w1, w2⟩ := add_words (sumN K) v.2.1 hv.2 hb
      exact ⟨_, _, c_Add64 _ _ 0 (Int.emod_nonneg _ (by decide)) (by rw [wrU]; exact Int.emod_nonneg _ (by decide)) (by omega) (by omega), l.length - (i + 1), by omega, i + 1, K ++ [v], H, hwu, by omega, rfl, hup, ok_snoc hK hv, by simp; omega, hR', rfl, by rw [sumN_snoc]; exact w2, by rw [sumN_snoc]; exact w1, by simp⟩
  · have hil : i = l.length := by rw [vc_len] at hlt; omega
    subst hil
    rw [ofL_end hst]
    refine ⟨fun hs => absurd hs.2 (by simp), fun hs => ?_⟩
    by_cases hK0 : K = []
    · subst hK0
      exact ⟨fun hf => absurd ((fits_iff 0 (by omega)).2 (by omega)) hf, fun _ => ⟨1, _, bs [], c_vNum _, rfl⟩⟩
    · refine ⟨fun hf => ?_, fun hf => ⟨1, _, bs [], c_vNum _, ?_⟩⟩
      · unfold endS
        rw [if_neg hK0, if_neg (fun h => hf ((fits_iff _ hb).2 h))]
        rfl
      · have hfit := (fits_iff _ hb).1 (Classical.not_not.1 hf)
        unfold endS
        rw [if_neg hK0, if_pos hfit, sum_low _ hfit]

set_option maxHeartbeats 1000000 in
theorem c_Of_avg (d : Bool) (l : List V3) (hl : ∀ v ∈ l, OKv v) (hn : l.length ≤ 1048576) : FnC Try.prog 10 [ND oAvg, bD d, .c (.vs (vc l))] (vdD (ofL true endA d l).1 (ofL true endA d l).2) := by
  refine w10 oAvg d (vc l) ⟨fun h => absurd h (by decide), fun _ => ⟨fun h => absurd h (by decide), fun _ => ⟨fun h => absurd h (by decide), fun _ => ⟨fun _ => ?_, fun h => absurd rfl h⟩⟩⟩⟩
  refine ⟨fun x3 a b n xh k => ∃ (i : Nat) (K H : List V3), x3 = (i : Int) ∧ i ≤ l.length ∧ k = l.length - i ∧ stL true d l i = (K, 0) ∧ (∀ v ∈ K, OKv v) ∧ K.length ≤ i ∧ RelH d K H ∧ xh = vc H ∧ a = sumN K / 18446744073709551616 ∧ b = sumN K % 18446744073709551616 ∧ n = (K.length : Int), ⟨l.length, 0, [], [], rfl, by omega, rfl, rfl, (fun v h => by simp at h), by simp, relH_nil d, rfl, rfl, rfl, rfl⟩, ?_⟩
  rintro k _ _ _ _ _ ⟨i, K, H, rfl, hi, rfl, hst, hK, hKl, hR, rfl, rfl, rfl, rfl⟩
  have hb := sum_bb K hK (by omega)
  refine ⟨fun hlt => ?_, fun hlt => ?_⟩
  · have hil : i < l.length := by rw [vc_len] at hlt; omega
    obtain ⟨e0, e1, e2⟩ := cells_v l i hil
    have hv := okv_at hl i
    have hup := stL_up hst
    have hwu := wrap_up i (by omega)
    simp only [e0, e1, e2]
    clear e0 e1 e2
    generalize l.getD i nul = v at *
    refine ⟨⟨by omega, hlt⟩, vc_sz l, vc_k l _ (by omega) (by omega), checkV v, c_vCheck v, fun h1 => ⟨fun _ => ?_, fun h => absurd h1 h⟩, fun h1 => ⟨fun h2 => ?_, fun h2 => ?_⟩⟩
    · rw [addL_bad h1] at hup
      rw [ofL_bad (by omega) hup h1]
      rfl
    · rw [addL_nul h1 h2] at hup
      exact ⟨l.length - (i + 1), by omega, i + 1, K, H, hwu, by omega, rfl, hup, hK, by omega, hR, rfl, rfl, rfl, rfl⟩
    refine ⟨fun h3 => ?_, fun h3 => ?_⟩
    · rw [addL_num h1 h2 h3] at hup
      rw [ofL_bad (by omega) hup (by decide)]
      rfl
    have h3' : ¬ (true = true ∧ v.1 ≠ 1) := fun h => h.2 (Classical.not_not.1 h3)
    refine ⟨fun hd => ?_, fun hd => ?_⟩
    · subst hd
      obtain ⟨j, hj, p2, p3, hp⟩ := c_place H v hR.2.2 hv.1 (by have := hR.2.1; omega) (hR.1 rfl).1
      refine ⟨(j : Int), _, hp, fun hf => ?_, fun hf => ?_⟩
      · rw [addL_dup h1 h2 h3' (by rw [← (hR.1 rfl).2 v]; exact (found_iff (hR.1 rfl).1 p2 p3).1 (of_decide_eq_true hf))] at hup
        exact ⟨l.length - (i + 1), by omega, i + 1, K, H, hwu, by omega, rfl, hup, hK, by omega, hR, rfl, rfl, rfl, rfl⟩
      · have hne : ¬ (j < H.length ∧ cmpV (H.getD j nul) v 0 = 0) := fun h => hf (decide_eq_true h)
        rw [addL_putT h1 h2 h3' (by rw [← (hR.1 rfl).2 v]; exact fun h => hne ((found_iff (hR.1 rfl).1 p2 p3).2 h))] at hup
        rintro _ rfl
        refine ⟨_, m_ins H v j hj (by have := hR.2.1; omega), ?_⟩
        have hR' := relH_ins hR hv hj p2 p3 hne
        generalize H.take j ++ [v] ++ H.drop j = H' at *
        obtain ⟨w1, w2⟩ := add_words (sumN K) v.2.1 hv.2 hb
        exact ⟨_, _, c_Add64 _ _ 0 (Int.emod_nonneg _ (by decide)) (by rw [wrU]; exact Int.emod_nonneg _ (by decide)) (by omega) (by omega), l.length - (i + 1), by omega, i + 1, K ++ [v], H', hwu, by omega, rfl, hup, ok_snoc hK hv, by simp; omega, hR', rfl, by rw [sumN_snoc]; exact w2, by rw [sumN_snoc]; exact w1, by rw [wrap_up K.length (by omega)]; simp⟩
    · have hd : d = false := by simpa using hd
      subst hd
      rw [addL_putF h1 h2 h3'] at hup
      have hR' := relH_put (v := v) hR
      obtain ⟨w1, w2⟩ := add_words (sumN K) v.2.1 hv.2 hb
      exact ⟨_, _, c_Add64 _ _ 0 (Int.emod_nonneg _ (by decide)) (by rw [wrU]; exact Int.emod_nonneg _ (by decide)) (by omega) (by omega), l.length - (i + 1), by omega, i + 1, K ++ [v], H, hwu, by omega, rfl, hup, ok_snoc hK hv, by simp; omega, hR', rfl, by rw [sumN_snoc]; exact w2, by rw [sumN_snoc]; exact w1, by rw [wrap_up K.length (by omega)]; simp⟩
  · have hil : i = l.length := by rw [vc_len] at hlt; omega
    subst hil
    rw [ofL_end hst]
    refine ⟨fun h0 => ?_, fun h0 => ?_⟩
    · have hK0 : K = [] := List.length_eq_zero_iff.1 (by omega)
      subst hK0
      rfl
    · have hpos : 0 < K.length := by omega
      have hsb := sum_b K hK (by omega)
      have hE : endA K = ((1, (sumN K).tdiv (K.length : Int), []), 0) := by
        unfold endA
        rw [if_neg (List.length_pos_iff.1 hpos)]
      rw [hE]
      refine ⟨fun hneg => ?_, fun hneg => ?_⟩
      · obtain ⟨_, _, _, _, _, _, s1, s2, s3, s4⟩ := avg_neg (sumN K) K.length hsb.1 (by omega) hpos (by omega)
        refine ⟨_, _, s1, _, _, s2, _, _, s3, fun _ => ⟨1, _, bs [], c_vNum _, ?_⟩, fun h => absurd hneg h⟩
        rw [s4]
      · obtain ⟨_, _, s1, s2⟩ := avg_pos (sumN K) K.length hsb.2 (by omega) hpos (by omega)
        refine ⟨_, _, s1, fun h => absurd h hneg, fun _ => ⟨1, _, bs [], c_vNum _, ?_⟩⟩
        rw [s2]

set_option maxHeartbeats 1000000 in
theorem c_Of_min (d : Bool) (l : List V3) (hl : ∀ v ∈ l, OKv v) (hn : l.length ≤ 1048576) : FnC Try.prog 10 [ND oMin, bD d, .c (.vs (vc l))] (vdD (ofL false (endB false) d l).1 (ofL false (endB false) d l).2) := by
  refine w10 oMin d (vc l) ⟨fun h => absurd h (by decide), fun _ => ⟨fun h => absurd h (by decide), fun _ => ⟨fun h => absurd h (by decide), fun _ => ⟨fun h => absurd h (by decide), fun _ => ⟨fun _ => ?_, fun h => absurd rfl h⟩⟩⟩⟩⟩
  refine ⟨fun x3 a b c s xh k => ∃ (i : Nat) (K H : List V3), x3 = (i : Int) ∧ i ≤ l.length ∧ k = l.length - i ∧ stL false d l i = (K, 0) ∧ (∀ v ∈ K, OKv v) ∧ K.length ≤ i ∧ RelH d K H ∧ xh = vc H ∧ a = (bestL false K).1 ∧ b = (bestL false K).2.1 ∧ c = bs (bestL false K).2.2 ∧ s = !K.isEmpty, ⟨l.length, 0, [], [], rfl, by omega, rfl, rfl, (fun v h => by simp at h), by simp, relH_nil d, rfl, rfl, rfl, rfl, rfl⟩, ?_⟩
  rintro k _ _ _ _ _ _ ⟨i, K, H, rfl, hi, rfl, hst, hK, hKl, hR, rfl, rfl, rfl, rfl, rfl⟩
  refine ⟨fun hlt => ?_, fun hlt => ?_⟩
  · have hil : i < l.length := by rw [vc_len] at hlt; omega
    obtain ⟨e0, e1, e2⟩ := cells_v l i hil
    have hv := okv_at hl i
    have hup := stL_up hst
    have hwu := wrap_up i (by omega)
    simp only [e0, e1, e2]
    clear e0 e1 e2
    generalize l.getD i nul = v at *
    refine ⟨⟨by omega, hlt⟩, vc_sz l, vc_k l _ (by omega) (by omega), checkV v, c_vCheck v, fun h1 => ⟨fun _ => ?_, fun h => absurd h1 h⟩, fun h1 => ⟨fun h2 => ?_, fun h2 => ?_⟩⟩
    · rw [addL_bad h1] at hup
      rw [ofL_bad (by omega) hup h1]
      rfl
    · rw [addL_nul h1 h2] at hup
      exact ⟨l.length - (i + 1), by omega, i + 1, K, H, hwu, by omega, rfl, hup, hK, by omega, hR, rfl, rfl, rfl, rfl, rfl⟩
    have h3' : ¬ (false = true ∧ v.1 ≠ 1) := fun h => by cases h.1
    refine ⟨fun _ => ?_, fun _ => ?_⟩
    all_goals
      refine ⟨fun hd => ?_, fun hd => ?_⟩
      · subst hd
        obtain ⟨j, hj, p2, p3, hp⟩ := c_place H v hR.2.2 hv.1 (by have := hR.2.1; omega) (hR.1 rfl).1
        refine ⟨(j : Int), _, hp, fun hf => ?_, fun hf => ?_⟩
        · rw [addL_dup h1 h2 h3' (by rw [← (hR.1 rfl).2 v]; exact (found_iff (hR.1 rfl).1 p2 p3).1 (of_decide_eq_true hf))] at hup
          exact ⟨l.length - (i + 1), by omega, i + 1, K, H, hwu, by omega, rfl, hup, hK, by omega, hR, rfl, rfl, rfl, rfl, rfl⟩
        · have hne : ¬ (j < H.length ∧ cmpV (H.getD j nul) v 0 = 0) := fun h => hf (decide_eq_true h)
          rw [addL_putT h1 h2 h3' (by rw [← (hR.1 rfl).2 v]; exact fun h => hne ((found_iff (hR.1 rfl).1 p2 p3).2 h))] at hup
          rintro _ rfl
          refine ⟨_, m_ins H v j hj (by have := hR.2.1; omega), ?_⟩
          have hR' := relH_ins hR hv hj p2 p3 hne
          generalize H.take j ++ [v] ++ H.drop j = H' at *
          refine ⟨cmpV v (bestL false K) 0, c_vCompare v (bestL false K) 0 hv.1 (best_sz false K hK), fun hc => ?_, fun hc => ?_⟩
          · have hbp : bestL false (K ++ [v]) = v := by
              rw [best_put, if_pos]
              simpa using hc
            exact ⟨l.length - (i + 1), by omega, i + 1, K ++ [v], H', hwu, by omega, rfl, hup, ok_snoc hK hv, by simp; omega, hR', rfl, by rw [hbp], by rw [hbp], by rw [hbp], by simp⟩
          · have hbp : bestL false (K ++ [v]) = bestL false K := by
              rw [best_put, if_neg]
              simpa using hc
            have hK0 : K ≠ [] := by
              intro e
              subst e
              simp at hc
            exact ⟨l.length - (i + 1), by omega, i + 1, K ++ [v], H', hwu, by omega, rfl, hup, ok_snoc hK hv, by simp; omega, hR', rfl, by rw [hbp], by rw [hbp], by rw [hbp], some_put hK0⟩
      · have hd : d = false := by simpa using hd
        subst hd
        rw [addL_putF h1 h2 h3'] at hup
        have hR' := relH_put (v := v) hR
        refine ⟨cmpV v (bestL false K) 0, c_vCompare v (bestL false K) 0 hv.1 (best_sz false K hK), fun hc => ?_, fun hc => ?_⟩
        · have hbp : bestL false (K ++ [v]) = v := by
            rw [best_put, if_pos]
            simpa using hc
          exact ⟨l.length - (i + 1), by omega, i + 1, K ++ [v], H, hwu, by omega, rfl, hup, ok_snoc hK hv, by simp; omega, hR', rfl, by rw [hbp], by rw [hbp], by rw [hbp], by simp⟩
        · have hbp : bestL false (K ++ [v]) = bestL false K := by
            rw [best_put, if_neg]
            simpa using hc
          have hK0 : K ≠ [] := by
            intro e
            subst e
            simp at hc
          exact ⟨l.length - (i + 1), by omega, i + 1, K ++ [v], H, hwu, by omega, rfl, hup, ok_snoc hK hv, by simp; omega, hR', rfl, by rw [hbp], by rw [hbp], by rw [hbp], some_put hK0⟩
  · have hil : i = l.length := by rw [vc_len] at hlt; omega
    subst hil
    rw [ofL_end hst]
    rfl

set_option maxHeartbeats 1000000 in
theorem c_Of_max (d : Bool) (l : List V3) (hl : ∀ v ∈ l, OKv v) (hn : l.length ≤ 1048576) : FnC Try.prog 10 [ND oMax, bD d, .c (.vs (vc l))] (vdD (ofL false (endB true) d l).1 (ofL false (endB true) d l).2) := by
  refine w10 oMax d (vc l) ⟨fun h => absurd h (by decide), fun _ => ⟨fun h => absurd h (by decide), fun _ => ⟨fun h => absurd h (by decide), fun _ => ⟨fun h => absurd h (by decide), fun _ => ⟨fun h => absurd h (by decide), fun _ => ⟨fun _ => ?_, fun h => absurd rfl h⟩⟩⟩⟩⟩⟩
  refine ⟨fun x3 a b c s xh k => ∃ (i : Nat) (K H : List V3), x3 = (i : Int) ∧ i ≤ l.length ∧ k = l.length - i ∧ stL false d l i = (K, 0) ∧ (∀ v ∈ K, OKv v) ∧ K.length ≤ i ∧ RelH d K H ∧ xh = vc H ∧ a = (bestL true K).1 ∧ b = (bestL true K).2.1 ∧ c = bs (bestL true K).2.2 ∧ s = !K.isEmpty, ⟨l.length, 0, [], [], rfl, by omega, rfl, rfl, (fun v h => by simp at h), by simp, relH_nil d, rfl, rfl, rfl, rfl, rfl⟩, ?_⟩
  rintro k _ _ _ _ _ _ ⟨i, K, H, rfl, hi, rfl, hst, hK, hKl, hR, rfl, rfl, rfl, rfl, rfl⟩
  refine ⟨fun hlt => ?_, fun hlt => ?_⟩
  · have hil : i < l.length := by rw [vc_len] at hlt; omega
    obtain ⟨e0, e1, e2⟩ := cells_v l i hil
    have hv := okv_at hl i
    have hup := stL_up hst
    have hwu := wrap_up i (by omega)
    simp only [e0, e1, e2]
    clear e0 e1 e2
    generalize l.getD i nul = v at *
    refine ⟨⟨by omega, hlt⟩, vc_sz l, vc_k l _ (by omega) (by omega), checkV v, c_vCheck v, fun h1 => ⟨fun _ => ?_, fun h => absurd h1 h⟩, fun h1 => ⟨fun h2 => ?_, fun h2 => ?_⟩⟩
    · rw [addL_bad h1] at hup
      rw [ofL_bad (by omega) hup h1]
      rfl
    · rw [addL_nul h1 h2] at hup
      exact ⟨l.length - (i + 1), by omega, i + 1, K, H, hwu, by omega, rfl, hup, hK, by omega, hR, rfl, rfl, rfl, rfl, rfl⟩
    have h3' : ¬ (false = true ∧ v.1 ≠ 1) := fun h => by cases h.1
    refine ⟨fun _ => ?_, fun _ => ?_⟩
    all_goals
      refine ⟨fun hd => ?_, fun hd => ?_⟩
      · subst hd
        obtain ⟨j, hj, p2, p3, hp⟩ := c_place H v hR.2.2 hv.1 (by have := hR.2.1; omega) (hR.1 rfl).1
        refine ⟨(j : Int), _, hp, fun hf => ?_, fun hf => ?_⟩
        · rw [addL_dup h1 h2 h3' (by rw [← (hR.1 rfl).2 v]; exact (found_iff (hR.1 rfl).1 p2 p3).1 (of_decide_eq_true hf))] at hup
          exact ⟨l.length - (i + 1), by omega, i + 1, K, H, hwu, by omega, rfl, hup, hK, by omega, hR, rfl, rfl, rfl, rfl, rfl⟩
        · have hne : ¬ (j < H.length ∧ cmpV (H.getD j nul) v 0 = 0) := fun h => hf (decide_eq_true h)
          rw [addL_putT h1 h2 h3' (by rw [← (hR.1 rfl).2 v]; exact fun h => hne ((found_iff (hR.1 rfl).1 p2 p3).2 h))] at hup
          rintro _ rfl
          refine ⟨_, m_ins H v j hj (by have := hR.2.1; omega), ?_⟩
          have hR' := relH_ins hR hv hj p2 p3 hne
          generalize H.take j ++ [v] ++ H.drop j = H' at *
          refine ⟨cmpV v (bestL true K) 0, c_vCompare v (bestL true K) 0 hv.1 (best_sz true K hK), fun hc => ?_, fun hc => ?_⟩
          · have hbp : bestL true (K ++ [v]) = v := by
              rw [best_put, if_pos]
              simpa using hc
            exact ⟨l.length - (i + 1), by omega, i + 1, K ++ [v], H', hwu, by omega, rfl, hup, ok_snoc hK hv, by simp; omega, hR', rfl, by rw [hbp], by rw [hbp], by rw [hbp], by simp⟩
          · have hbp : bestL true (K ++ [v]) = bestL true K := by
              rw [best_put, if_neg]
              simpa using hc
            have hK0 : K ≠ [] := by
              intro e
              subst e
              simp at hc
            exact ⟨l.length - (i + 1), by omega, i + 1, K ++ [v], H', hwu, by omega, rfl, hup, ok_snoc hK hv, by simp; omega, hR', rfl, by rw [hbp], by rw [hbp], by rw [hbp], some_put hK0⟩
      · have hd : d = false := by simpa using hd
        subst hd
        rw [addL_putF h1 h2 h3'] at hup
        have hR' := relH_put (v := v) hR
        refine ⟨cmpV v (bestL true K) 0, c_vCompare v (bestL true K) 0 hv.1 (best_sz true K hK), fun hc => ?_, fun hc => ?_⟩
        · have hbp : bestL true (K ++ [v]) = v := by
            rw [best_put, if_pos]
            simpa using hc
          exact ⟨l.length - (i + 1), by omega, i + 1, K ++ [v], H, hwu, by omega, rfl, hup, ok_snoc hK hv, by simp; omega, hR', rfl, by rw [hbp], by rw [hbp], by rw [hbp], by simp⟩
        · have hbp : bestL true (K ++ [v]) = bestL true K := by
            rw [best_put, if_neg]
            simpa using hc
          have hK0 : K ≠ [] := by
            intro e
            subst e
            simp at hc
          exact ⟨l.length - (i + 1), by omega, i + 1, K ++ [v], H, hwu, by omega, rfl, hup, ok_snoc hK hv, by simp; omega, hR', rfl, by rw [hbp], by rw [hbp], by rw [hbp], some_put hK0⟩
  · have hil : i = l.length := by rw [vc_len] at hlt; omega
    subst hil
    rw [ofL_end hst]
    rfl

end Go.Proofs.Yteljlbgjpnfdjaa
namespace Go.Proofs.Yteljlbgjpnfdjaa
open Go.RowKit Go.IntWalk
set_option linter.unusedSimpArgs false
set_option linter.unusedVariables false

theorem okl (L : List V3) (h : ∀ v ∈ L, v.2.2.length ≤ 1 ∧ -9223372036854775808 ≤ v.2.1 ∧ v.2.1 ≤ 9223372036854775807) : ∀ v ∈ L, OKv v := fun v hv => by
  have := h v hv
  exact ⟨by unfold Sz; omega, this.2.1, this.2.2⟩
theorem c_live : FnC Try.prog 16 [] (bD true) := by
  have s1 := c_Of_sum false [(1, 9223372036854775807, []), (1, 1, []), (1, -1, [])] (okl _ (by decide)) (by decide)
  have s2 := c_Of_sum false [(1, 9223372036854775807, []), (1, 1, [])] (okl _ (by decide)) (by decide)
  have s3 := c_Of_avg false [(1, -1, []), (1, -2, [])] (okl _ (by decide)) (by decide)
  have s4 := c_Of_count true [(1, 3, []), (0, 0, []), (1, 3, [])] (okl _ (by decide)) (by decide)
  have s5 := c_Of_total false [(2, 0, [120])] (okl _ (by decide)) (by decide)
  have s6 := c_Of_max false [] (okl _ (by decide)) (by decide)
  rw [show ofL true (endS false) false [(1, 9223372036854775807, []), (1, 1, []), (1, -1, [])] = ((1, 9223372036854775807, []), 0) by decide +kernel] at s1
  rw [show ofL true (endS false) false [(1, 9223372036854775807, []), (1, 1, [])] = (nul, 9) by decide +kernel] at s2
  rw [show ofL true endA false [(1, -1, []), (1, -2, [])] = ((1, -1, []), 0) by decide +kernel] at s3
  rw [show ofL false endC true [(1, 3, []), (0, 0, []), (1, 3, [])] = ((1, 1, []), 0) by decide +kernel] at s4
  rw [show ofL true (endS true) false [(2, 0, [120])] = (nul, 11) by decide +kernel] at s5
  rw [show ofL false (endB true) false [] = (nul, 0) by decide +kernel] at s6
  have n : ∀ z : Int, FnC Try.prog 17 [iD z] (.agg [.v (.int .i64 1), .v (.int .i64 z), .v (.string (bs []))]) := fun z => c_vNum z
  have k1 := c_Known oCount 0 (.inl rfl)
  have k2 := c_Known oSum 0 (.inr (.inl rfl))
  rw [show knownB oCount 0 = true by unfold knownB; simp] at k1
  rw [show knownB oSum 0 = false by unfold knownB; simp [ba_eq]] at k2
  refine w16 ⟨_, _, _, n _, _, _, _, n _, _, _, _, n _, ?_⟩
  rintro _ rfl
  refine ⟨_, _, _, _, s1, _, _, _, n _, ?_⟩
  rintro _ rfl
  refine ⟨_, _, _, _, s2, _, _, _, n _, _, _, _, n _, ?_⟩
  rintro _ rfl
  refine ⟨_, _, _, _, s3, _, _, _, n _, _, _, _, n _, ?_⟩
  rintro _ rfl
  refine ⟨_, _, _, _, s4, _, _, _, c_vStr [120], ?_⟩
  rintro _ rfl
  refine ⟨_, _, _, _, s5, _, _, _, _, s6, _, _, _, fun _ => n _, _, _, _, fun _ => n _, true, fun _ => k1, false, fun _ => k2, 2, fun _ => ?_, ?_⟩
  · exact w12_nil _ _ _ rfl
  · simp [bs_toList]
end Go.Proofs.Yteljlbgjpnfdjaa
