/- A symbolic run of Go code, fifth part: numbers, texts, comparisons are as the program reckons them. No condition. -/
import Derived.Test.YtdgjcdhomfhfpaaAb4
namespace Go.Proofs.Ytdgjcdhomfhfpaa
open Go.RowKit
set_option linter.unusedSimpArgs false
set_option linter.unusedVariables false

theorem run_und {P : Program} {t : TypeId} {d : TypeDesc} (h : P.underlying t = some d) (w : World) : (underlying t).run P w = .ok d w := run_underlying h w
theorem run_info {P : Program} {t : TypeId} {i : TypeInfo} (h : P.info? t = some i) (w : World) : (typeInfo t).run P w = .ok i w := by
  simp [typeInfo, h]
theorem run_size {P : Program} {t : TypeId} {i : TypeInfo} (h : P.info? t = some i) (w : World) : (sizeOf t).run P w = .ok i.size w := by
  simp [sizeOf, run_info h]
theorem run_zero {P : Program} {t : TypeId} {i : TypeInfo} {z : Value} (h : P.info? t = some i) (hz : i.zero = some z) (w : World) : (zeroValue t).run P w = .ok z w := by
  simp [zeroValue, run_info h, hz]
theorem run_isAgg {P : Program} {t : TypeId} {d : TypeDesc} (h : P.underlying t = some d) (w : World) : (isAgg t).run P w = .ok (aggT d) w := by
  simp only [isAgg, Sem.run_bind, run_und h, Result.andThen_ok]
  cases d <;> simp [aggT]

section
variable {P : Program} {ν : Nu} {w : World} {X : Nat → Prop} {σ : List Pl}

/-- the guard on an equality of two values -/
def guarded (P : Program) (op : BinOp) (t : TypeId) (ox oy : Operand) (a b : Value) (w : World) : Result Value :=
  (do eqGuard op t ox oy a b; binOp op t a b : Sem Value).run P w

theorem guard_int (op : BinOp) (t : TypeId) (ox oy : Operand) (k k' : IntKind) (a b : Int) : guarded P op t ox oy (.int k a) (.int k' b) w = (binOp op t (.int k a) (.int k' b)).run P w := by
  unfold guarded eqGuard
  cases op <;> simp
theorem guard_str (op : BinOp) (t : TypeId) (ox oy : Operand) (a b : ByteArray) : guarded P op t ox oy (.string a) (.string b) w = (binOp op t (.string a) (.string b)).run P w := by
  unfold guarded eqGuard
  cases op <;> simp
theorem guard_bool (op : BinOp) (t : TypeId) (ox oy : Operand) (a b : Bool) : guarded P op t ox oy (.bool a) (.bool b) w = (binOp op t (.bool a) (.bool b)).run P w := by
  unfold guarded eqGuard
  cases op <;> simp

/-- An operation that leaves memory alone. -/
def Comes' (P : Program) (ν : Nu) (w : World) (X : Nat → Prop) (σ : List Pl) (out : Out) (r : Result Value) : Prop :=
  out.e = .no ∧ (denNs ν out.needs → ∃ v, r = .ok v w ∧ LR ν w X σ out.v v)

theorem s_intOp (op : BinOp) (k : IntKind) (t : TypeId) (a b : E) (out : Out) (h : intOp op k a b = some out) :
    Comes' P ν w X σ out ((binOp op t (.int k (denI ν a)) (.int k (denI ν b))).run P w) := by
  cases op <;> simp only [intOp, Option.some.injEq, reduceCtorEq] at h <;> subst h <;> refine ⟨rfl, fun hn => ?_⟩
  all_goals simp only [binOp, ne_eq, not_true_eq_false, if_false, Op.intArith, Op.intDiv, Op.intCmp, Op.intBits]
  case add => exact ⟨_, rfl, by simp only [LR, den_wr, den_bin ν (· + ·) .add (fun _ _ => rfl)]⟩
  case sub => exact ⟨_, rfl, by simp only [LR, den_wr, den_bin ν (· - ·) .sub (fun _ _ => rfl)]⟩
  case mul => exact ⟨_, rfl, by simp only [LR, den_wr, den_bin ν (· * ·) .mul (fun _ _ => rfl)]⟩
  case quo =>
    have h0 : denI ν b ≠ 0 := hn (.ne0 b) (by simp)
    rw [if_neg h0]
    exact ⟨_, rfl, by simp only [LR, den_wr, den_bin ν Int.tdiv .quo (fun _ _ => rfl)]⟩
  case rem =>
    have h0 : denI ν b ≠ 0 := hn (.ne0 b) (by simp)
    rw [if_neg h0]
    exact ⟨_, rfl, by simp only [LR, den_bin ν Int.tmod .rem (fun _ _ => rfl)]⟩
  case and => exact ⟨_, rfl, by simp only [LR, denI]⟩
  case or => exact ⟨_, rfl, by simp only [LR, denI]⟩
  case eql => exact ⟨_, rfl, by simp only [LR, den_rel ν (· == ·) .eq (fun _ _ => rfl)]⟩
  case neq => exact ⟨_, rfl, by simp only [LR, den_not, den_rel ν (· == ·) .eq (fun _ _ => rfl)]; rfl⟩
  case lss => exact ⟨_, rfl, by simp only [LR, den_rel ν (fun x y => decide (x < y)) .lt (fun _ _ => rfl)]⟩
  case leq => exact ⟨_, rfl, by simp only [LR, den_rel ν (fun x y => decide (x ≤ y)) .le (fun _ _ => rfl)]⟩
  case gtr => exact ⟨_, rfl, by simp only [LR, den_rel ν (fun x y => decide (x < y)) .lt (fun _ _ => rfl)]⟩
  case geq => exact ⟨_, rfl, by simp only [LR, den_rel ν (fun x y => decide (x ≤ y)) .le (fun _ _ => rfl)]⟩

theorem s_strOp (op : BinOp) (t : TypeId) (a b : E) (out : Out) (h : strOp op a b = some out) :
    Comes' P ν w X σ out ((binOp op t (.string (denS ν a)) (.string (denS ν b))).run P w) := by
  cases op <;> simp only [strOp, Option.some.injEq, reduceCtorEq] at h <;> subst h <;> refine ⟨rfl, fun hn => ?_⟩
  all_goals simp only [binOp]
  case add =>
    have h0 : (((denS ν a).size + (denS ν b).size : Nat) : Int) ≤ 9223372036854775807 := hn (.strs a b) (by simp)
    exact ⟨_, run_string_add_sum _ _ _ (by omega), by simp only [LR, denS]⟩
  all_goals simp only [Op.stringOp]
  case eql => exact ⟨_, rfl, by simp only [LR, den_eqs]⟩
  case neq => exact ⟨_, rfl, by simp only [LR, den_not, den_eqs]⟩
  case lss => exact ⟨_, rfl, by simp only [LR, denB]⟩
  case leq =>
    refine ⟨_, rfl, ?_⟩
    simp only [LR, den_iteB, den_eqs, denB]
    cases Op.bytesLess (denS ν a).toList (denS ν b).toList <;> simp
  case gtr =>
    refine ⟨_, rfl, ?_⟩
    simp only [LR, den_not, den_iteB, den_eqs, denB]
    cases Op.bytesLess (denS ν a).toList (denS ν b).toList <;> simp
  case geq => exact ⟨_, rfl, by simp only [LR, den_not, denB]⟩

theorem LRs_cons {cs : List LV} {c : LV} {rs : List Value} (h : LRs ν w X σ (c :: cs) rs) : ∃ r rs', rs = r :: rs' ∧ LR ν w X σ c r ∧ LRs ν w X σ cs rs' := by
  cases rs with
  | nil => simp only [LRs] at h
  | cons r rs' =>
    simp only [LRs] at h
    exact ⟨r, rs', rfl, h.1, h.2⟩

theorem eqC_ok {d : TypeDesc} {ty : TypeId} (hu : P.underlying ty = some d) (n : Nat) {a b : LV} {e : E} (he : eqC d a b = some e) {ra rb : Value} (la : LR ν w X σ a ra) (lb : LR ν w X σ b rb) :
    aggT d = false ∧ (Op.equalIn (n + 1) ty ra rb).run P w = .ok (denB ν e) w := by
  unfold eqC at he
  split at he
  · rename_i k0 k1 a1 k2 b1
    cases hkk : kEq k1 k2
    · rw [hkk] at he; simp at he
    · rw [hkk] at he
      obtain rfl := (kEq_iff _ _).1 hkk
      obtain rfl : mkRel (· == ·) .eq a1 b1 = e := by simpa using he
      simp only [LR] at la lb
      subst la lb
      exact ⟨rfl, by rw [run_equalIn_int w n ty k1 k0 _ _ hu, den_rel ν (· == ·) .eq (fun _ _ => rfl)]⟩
  · simp only [Option.some.injEq] at he
    subst he
    simp only [LR] at la lb
    subst la lb
    exact ⟨rfl, by rw [run_equalIn_string w n ty _ _ hu, den_eqs]⟩
  · simp only [Option.some.injEq] at he
    subst he
    simp only [LR] at la lb
    subst la lb
    exact ⟨rfl, by rw [run_equalIn_bool' w n ty _ _ hu]; rfl⟩
  · simp at he
theorem eqFields_ok {T : Tab} (hT : TOK P T) (d : Nat) (xs ys : Array Value) : ∀ (fs : List Field) (i : Nat) (as bs : List LV) (e : E),
    eqFs T fs i as bs = some e → LRs ν w X σ as (xs.toList.drop i) → LRs ν w X σ bs (ys.toList.drop i) →
    (Op.eqFields (d + 1) xs ys fs).run P w = .ok (denB ν e) w
  | [], i, as, bs, e, he, _, _ => by
    unfold eqFs at he
    split at he
    · simp only [Option.some.injEq] at he
      subst he
      simp [Op.eqFields, denB]
    all_goals simp_all
  | f :: fs, i, as, bs, e, he, ha, hb => by
    cases as with
    | nil => simp [eqFs] at he
    | cons a as =>
      cases bs with
      | nil => simp [eqFs] at he
      | cons b bs =>
        simp only [eqFs] at he
        split at he
        rotate_left
        · simp at he
        rename_i ti hg
        cases hc : Nat.beq f.offset i && (f.name != "_")
        · rw [hc] at he; simp at he
        rw [hc] at he
        simp only [cond_true] at he
        split at he
        rotate_left
        · simp at he
        rename_i x y hx hy
        simp only [Option.some.injEq] at he
        subst he
        simp only [Bool.and_eq_true, bne_iff_ne, ne_eq] at hc
        obtain ⟨ho, hn⟩ := hc
        have ho : f.offset = i := Nat.eq_of_beq_eq_true ho
        obtain ⟨ra, ras, hra, la, las⟩ := LRs_cons ha
        obtain ⟨rb, rbs, hrb, lb, lbs⟩ := LRs_cons hb
        have ga : xs[i]? = some ra := by
          have := congrArg (·[0]?) hra
          simpa using this
        have gb : ys[i]? = some rb := by
          have := congrArg (·[0]?) hrb
          simpa using this
        have da : xs.toList.drop (i + 1) = ras := by rw [← List.drop_drop, hra]; rfl
        have db : ys.toList.drop (i + 1) = rbs := by rw [← List.drop_drop, hrb]; rfl
        have hu := (hT.get hg).1
        obtain ⟨hagg, key⟩ := eqC_ok hu d hx la lb
        have ih := eqFields_ok hT d xs ys fs (i + 1) as bs y hy (by rw [da]; exact las) (by rw [db]; exact lbs)
        simp only [Op.eqFields, ne_eq, hn, not_false_eq_true, if_true, Sem.run_bind, part, run_isAgg hu, hagg, Result.andThen_ok, Bool.false_eq_true, if_false, ho, ga, gb, Sem.run_pure, key, Sem.run_ite, den_and, ih]
        cases denB ν x <;> simp
end
end Go.Proofs.Ytdgjcdhomfhfpaa
