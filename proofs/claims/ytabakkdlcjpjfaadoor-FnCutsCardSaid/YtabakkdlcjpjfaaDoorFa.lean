/- The chapter's examples hold; the walk of the statement about patterns. Condition: texts that a machine can hold. -/
import Derived.Test.YtabakkdlcjpjfaaDoorFc
namespace Go.Proofs.YtabakkdlcjpjfaaDoor
open Go.RowKit Go.IntWalk
set_option linter.unusedSimpArgs false
set_option linter.unusedVariables false

theorem call_ok {op f : List UInt8} {L : List V3} {r : V3} (hop : Sm op) (hl : L.length ≤ 1000000) (hf : foldL op = f) (k : knownB f L.length = true) (b : badV L = 0) (a : L.any (fun v => v.1 == 0) = false)
    (nf : f ≠ wTypeof ∧ f ≠ wQuote ∧ f ≠ wCoalesce ∧ f ≠ wIfnull ∧ f ≠ wNullif ∧ f ≠ wConcat) (hr : (r.2.2.length : Int) ≤ 4096)
    (hc : FnC Tryd.prog 21 [sD f, .c (.vs (vc L))] (.tup [vD r, iD 0])) : FnC Tryd.prog 9 [sD op, .c (.vs (vc L))] (.tup [vD r, iD 0]) := by
  have h := c_Call op hop L hl nul 0 false r 0 (fun _ _ => by rw [hf]; exact c_open_not f L nf) (fun _ _ _ _ => by rw [hf]; exact hc)
  rw [callR, hf, if_pos k, if_pos b, if_neg (by simp), if_neg (by rw [a]; simp), fitR, if_neg (by omega), if_pos rfl] at h
  exact h
theorem sm_of (l : List UInt8) (h : l.length ≤ 100 := by decide) : Sm l := by unfold Sm; omega
theorem vs_of (k n : Int) (s : List UInt8) (h1 : -100 ≤ k ∧ k ≤ 100 := by decide) (h2 : -100 ≤ n ∧ n ≤ 100 := by decide) (h : s.length ≤ 100 := by decide) : Vs (k, n, s) := by
  refine ⟨?_, ?_, sm_of s h⟩ <;> (constructor <;> simp only [] <;> omega)

theorem c_awake : FnC Tryd.prog 7 [] (bD true) := by
  refine w7 ?_
  have hn : wSubstr ≠ wTypeof ∧ wSubstr ≠ wQuote ∧ wSubstr ≠ wCoalesce ∧ wSubstr ≠ wIfnull ∧ wSubstr ≠ wNullif ∧ wSubstr ≠ wConcat := by decide
  have hi : wInstr ≠ wTypeof ∧ wInstr ≠ wQuote ∧ wInstr ≠ wCoalesce ∧ wInstr ≠ wIfnull ∧ wInstr ≠ wNullif ∧ wInstr ≠ wConcat := by decide
  have e1 : subV (2, 0, [97, 98, 99]) (-2) none = (2, 0, [98, 99]) := by decide +kernel
  have e2 : subV (2, 0, [97, 98, 99]) 0 (some 2) = (2, 0, [97, 98]) := by decide +kernel
  have e3 : subV (2, 0, [97, 98, 99]) (-5) (some 3) = (2, 0, [97]) := by decide +kernel
  have e4 : findL [97, 98, 99, 98, 99] [98, 99] 0 = 1 := by rw [findL]; simp; rw [findL]; simp
  have k1 := c_call_sub2 (2, 0, [97, 98, 99]) (1, -2, []) (vs_of _ _ _) (vs_of _ _ _) rfl
  have k2 := c_call_sub3 (2, 0, [97, 98, 99]) (1, 0, []) (1, 2, []) (vs_of _ _ _) (vs_of _ _ _) (vs_of _ _ _) ⟨rfl, rfl⟩
  have k3 := c_call_sub3 (2, 0, [97, 98, 99]) (1, -5, []) (1, 3, []) (vs_of _ _ _) (vs_of _ _ _) (vs_of _ _ _) ⟨rfl, rfl⟩
  have k4 := c_call_instr (2, 0, [97, 98, 99, 98, 99]) (2, 0, [98, 99]) (vs_of _ _ _) (vs_of _ _ _) Iff.rfl
  rw [e1] at k1
  rw [e2] at k2
  rw [e3] at k3
  rw [show rawL (2, 0, [97, 98, 99, 98, 99]) = [97, 98, 99, 98, 99] from rfl, show rawL (2, 0, [98, 99]) = [98, 99] from rfl, e4] at k4
  have c1 := call_ok (op := [115, 117, 98, 115, 116, 114]) (sm_of _) (by decide) (by decide +kernel) (by decide +kernel) (by decide +kernel) (by decide) hn (by decide) k1
  have c2 := call_ok (op := [83, 85, 66, 83, 84, 82]) (sm_of _) (by decide) (by decide +kernel) (by decide +kernel) (by decide +kernel) (by decide) hn (by decide) k2
  have c3 := call_ok (op := [115, 117, 98, 115, 116, 114]) (sm_of _) (by decide) (by decide +kernel) (by decide +kernel) (by decide +kernel) (by decide) hn (by decide) k3
  have c4 := call_ok (op := [105, 110, 115, 116, 114]) (sm_of _) (by decide) (by decide +kernel) (by decide +kernel) (by decide +kernel) (by decide) hi (by decide) k4
  have c5 := c_Like [65, 98, 99] [97, 95, 37] (sm_of _) (sm_of _)
  have e5 : likB [65, 98, 99] [97, 95, 37] = true := by
    unfold likB
    rw [show foldL [65, 98, 99] = [97, 98, 99] by decide +kernel, show foldL [97, 95, 37] = [97, 95, 37] by decide +kernel]
    refine @decide_eq_true _ (Classical.propDecidable _) ?_
    exact .inr ⟨by decide, 97, [98, 99], rfl, .inr rfl, .inr ⟨by decide, 98, [99], rfl, .inl rfl, .inl ⟨rfl, 1, by simp, rfl⟩⟩⟩
  rw [e5] at c5
  have c6 := c_Known [97, 98, 115] 2 (sm_of _)
  rw [show knownB (foldL [97, 98, 115]) 2 = false by decide +kernel] at c6
  refine ⟨_, _, _, c_t [97, 98, 99], _, _, _, c_n (-2), fun x6 h6 => ?_⟩
  obtain rfl : x6 = vc [(2, 0, [97, 98, 99]), (1, -2, [])] := h6
  refine ⟨_, _, _, _, c1, _, _, _, c_t [97, 98, 99], _, _, _, c_n 0, _, _, _, c_n 2, fun x20 h20 => ?_⟩
  obtain rfl : x20 = vc [(2, 0, [97, 98, 99]), (1, 0, []), (1, 2, [])] := h20
  refine ⟨_, _, _, _, c2, _, _, _, c_t [97, 98, 99], _, _, _, c_n (-5), _, _, _, c_n 3, fun x34 h34 => ?_⟩
  obtain rfl : x34 = vc [(2, 0, [97, 98, 99]), (1, -5, []), (1, 3, [])] := h34
  refine ⟨_, _, _, _, c3, _, _, _, c_t [97, 98, 99, 98, 99], _, _, _, c_t [98, 99], fun x45 h45 => ?_⟩
  obtain rfl : x45 = vc [(2, 0, [97, 98, 99, 98, 99]), (2, 0, [98, 99])] := h45
  refine ⟨_, _, _, _, c4, _, _, _, fun _ => c_t [98, 99], _, _, _, fun _ => c_t [97, 98], _, _, _, fun _ => c_t [97], _, _, _, fun _ => c_n 2, _, fun _ => c5, _, fun _ => c6, ?_⟩
  simp [bD]

theorem walkLikes (s p : List UInt8) : FnC Tryd.prog 4 [sD s, sD p] (bD true) := by
  refine w4 (bs s) (bs p) ?_
  rw [bs_size, bs_size]
  refine ⟨fun _ => ⟨_, c_awake, rfl⟩, fun h => ?_⟩
  have hs : Sm s := by unfold Sm; omega
  have hp : Sm p := by unfold Sm; omega
  refine ⟨_, c_Like s p hs hp, _, c_rLike s p hs hp, _, fun _ => c_awake, ?_⟩
  simp [bD]
end Go.Proofs.YtabakkdlcjpjfaaDoor
