/- A symbolic run of Go code, sixth part: operations that leave memory alone. No condition. -/
import Derived.Test.YtdgjcdhomfhfpaaAb5
import Derived.Laws.RangeString
import Derived.Laws.Slices
import Derived.Laws.DeepStrings4
namespace Go.Proofs.Ytdgjcdhomfhfpaa
open Go.RowKit
set_option linter.unusedSimpArgs false
set_option linter.unusedVariables false
section
variable {P : Program} {ν : Nu} {w : World} {X : Nat → Prop} {σ : List Pl}

theorem run_shr_lit (t : TypeId) (k k' : IntKind) (a : Int) (n : Nat) (h : n < k.bits) : (binOp .shr t (.int k a) (.int k' (Int.ofNat n))).run P w = .ok (.int k (a.fdiv (2 ^ n))) w := by
  simp only [binOp, Op.shift]
  rw [if_neg (by simp)]
  simp [Nat.min_eq_left (Nat.le_of_lt h)]
theorem run_shl_lit (t : TypeId) (k k' : IntKind) (a : Int) (n : Nat) (h : n < k.bits) : (binOp .shl t (.int k a) (.int k' (Int.ofNat n))).run P w = .ok (.int k (k.wrap (a * 2 ^ n))) w := by
  simp only [binOp, Op.shift]
  rw [if_neg (by simp)]
  simp [Nat.min_eq_left (Nat.le_of_lt h)]

theorem run_shr_any (t : TypeId) (k k' : IntKind) (a b : Int) (h : 0 ≤ b) : (binOp .shr t (.int k a) (.int k' b)).run P w = .ok (.int k (a.fdiv (2 ^ min b.toNat k.bits))) w := by
  simp only [binOp, Op.shift]
  rw [if_neg (by omega)]
  simp
theorem run_shl_any (t : TypeId) (k k' : IntKind) (a b : Int) (h : 0 ≤ b) : (binOp .shl t (.int k a) (.int k' b)).run P w = .ok (.int k (k.wrap (a * 2 ^ min b.toNat k.bits))) w := by
  simp only [binOp, Op.shift]
  rw [if_neg (by omega)]
  simp

theorem s_binO {T : Tab} (hT : TOK P T) (op : BinOp) (t : TypeId) (x y : LV) (out : Out) (h : binO T op t x y = some out) (ox oy : Operand) (rx ry : Value) (lx : LR ν w X σ x rx) (ly : LR ν w X σ y ry) :
    Comes' P ν w X σ out (guarded P op t ox oy rx ry w) := by
  unfold binO at h
  split at h
  · rename_i k a k' b
    simp only [LR] at lx ly
    subst lx ly
    rw [guard_int]
    split at h
    · split at h
      · rename_i n
        cases hb : Nat.blt n k.bits
        · rw [hb] at h; simp at h
        · rw [hb] at h
          simp only [cond_true, Option.some.injEq] at h
          subst h
          exact ⟨rfl, fun _ => ⟨_, run_shr_lit t k k' (denI ν a) n (by simpa using hb), by simp only [LR, denI]⟩⟩
      · simp at h
    · split at h
      · rename_i n
        cases hb : Nat.blt n k.bits
        · rw [hb] at h; simp at h
        · rw [hb] at h
          simp only [cond_true, Option.some.injEq] at h
          subst h
          exact ⟨rfl, fun _ => ⟨_, run_shl_lit t k k' (denI ν a) n (by simpa using hb), by simp only [LR, denI]⟩⟩
      · simp at h
    · simp only [Option.some.injEq] at h
      subst h
      exact ⟨rfl, fun hn => ⟨_, run_shr_any t k k' (denI ν a) (denI ν b) (by simpa [denNs, denN, denI] using hn), by simp only [LR, denI]⟩⟩
    · simp only [Option.some.injEq] at h
      subst h
      exact ⟨rfl, fun hn => ⟨_, run_shl_any t k k' (denI ν a) (denI ν b) (by simpa [denNs, denN, denI] using hn), by simp only [LR, denI]⟩⟩
    · rename_i h1 h2 h3 h4
      cases hk : kEq k k'
      · rw [hk] at h; simp at h
      · rw [hk] at h
        obtain rfl := (kEq_iff _ _).1 hk
        exact s_intOp op k t a b out (by simpa using h)
  · simp only [LR] at lx ly
    subst lx ly
    rw [guard_str]
    exact s_strOp op t _ _ out h
  · rename_i a b
    simp only [LR] at lx ly
    subst lx ly
    rw [guard_bool]
    split at h
    · rename_i hg
      have hu := (hT.get hg).1
      split at h
      · simp only [Option.some.injEq] at h
        subst h
        exact ⟨rfl, fun _ => ⟨_, run_eql_bool w t _ _ hu, by simp only [LR, denB]⟩⟩
      · simp only [Option.some.injEq] at h
        subst h
        refine ⟨rfl, fun _ => ⟨.bool (!(denB ν a == denB ν b)), ?_, by simp only [LR, den_not, denB]⟩⟩
        simp only [binOp, Sem.run_bind, run_equal_bool w t _ _ hu, Result.andThen_ok, Sem.run_pure]
      · simp at h
    · simp at h
  · rename_i c
    split at h
    · rename_i el _ _ _ _ hg
      have hu := (hT.get hg).1
      simp only [LR] at lx ly
      subst ly
      obtain ⟨ad, len, rc, rfl, hnil⟩ : ∃ ad len rc, rx = .slice ad len rc ∧ (ad.isNone = true → denC ν c = []) := by
        generalize hcv : CV.vs (denC ν c) = cv at lx
        cases lx with
        | v x h1 => cases hcv
        | sem Q x h1 hq => cases hcv
        | nil a =>
          simp only [CV.vs.injEq] at hcv
          exact ⟨a, 0, 0, rfl, fun _ => hcv⟩
        | vs els b o sz cc g h1 h2 h3 h4 => exact ⟨_, _, _, rfl, fun h => by simp at h⟩
      have hg2 : ∀ op, guarded P op t ox oy (.slice ad len rc) (.slice none 0 0) w = (binOp op t (.slice ad len rc) (.slice none 0 0)).run P w := fun op => by
        unfold guarded eqGuard
        cases op <;> simp
      have hrun : (Op.equal t (.slice ad len rc) (.slice none 0 0)).run P w = .ok ad.isNone w := by
        simp [Op.equal, Op.maxDepth, Lib.run_equalIn_slice_nil w 9999 t el ad len rc 0 0 hu]
      split at h
      · simp only [Option.some.injEq] at h
        subst h
        refine ⟨rfl, fun _ => ⟨.bool ad.isNone, ?_, ?_⟩⟩
        · rw [hg2]; simp only [binOp, Sem.run_bind, hrun, Result.andThen_ok, Sem.run_pure]
        · simp only [LR]
          exact ⟨_, rfl, fun h => hnil (by simpa using h)⟩
      · simp only [Option.some.injEq] at h
        subst h
        refine ⟨rfl, fun _ => ⟨.bool (!ad.isNone), ?_, ?_⟩⟩
        · rw [hg2]; simp only [binOp, Sem.run_bind, hrun, Result.andThen_ok, Sem.run_pure]
        · simp only [LR]
          exact ⟨_, rfl, fun h => hnil (by simpa using h)⟩
      · simp at h
    · simp at h
  · rename_i xs ys
    split at h
    · rename_i fs _ _ _ hg
      obtain ⟨hu, ⟨i, hi, _⟩, hq⟩ := hT.get hg
      obtain ⟨hp, hm⟩ := hq rfl
      simp only [LR] at lx ly
      obtain ⟨ax, rfl, lx⟩ := lx
      obtain ⟨ay, rfl, ly⟩ := ly
      have hfs : P.fieldsOf t = fs := by simp only [Program.fieldsOf, hu]
      have ht : P.underlying t = some (.struct (P.fieldsOf t)) := by rw [hfs]; exact hu
      split at h
      · rename_i e he
        simp only [Option.some.injEq] at h
        subst h
        have key := eqFields_ok hT 9998 ax ay fs.toList 0 xs ys e he (by simpa using lx) (by simpa using ly)
        refine ⟨rfl, fun _ => ⟨_, ?_, rfl⟩⟩
        simp only [guarded, Sem.run_bind, run_eqGuard_agg w _ t ox oy ax ay hm, Result.andThen_ok, run_eql_struct, run_equalIn_agg w 9999 t ax ay ht hp, hfs, key]
      · rename_i e he
        simp only [Option.some.injEq] at h
        subst h
        have key := eqFields_ok hT 9998 ax ay fs.toList 0 xs ys e he (by simpa using lx) (by simpa using ly)
        refine ⟨rfl, fun _ => ⟨.bool (!denB ν e), ?_, by simp only [LR, den_not]⟩⟩
        simp only [guarded, Sem.run_bind, run_eqGuard_agg w _ t ox oy ax ay hm, Result.andThen_ok, run_neq_struct, run_equalIn_agg w 9999 t ax ay ht hp, hfs, key]
      · simp at h
    · simp at h
  · simp at h
end
end Go.Proofs.Ytdgjcdhomfhfpaa
