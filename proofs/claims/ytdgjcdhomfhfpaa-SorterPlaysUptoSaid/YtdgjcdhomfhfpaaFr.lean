/- From a contract over closed data to a call's. No condition. -/
import Derived.Test.YtdgjcdhomfhfpaaBase
import Derived.Test.YtdgjcdhomfhfpaaDv
import Derived.Test.YtdgjcdhomfhfpaaCt2
namespace Go.Proofs.Ytdgjcdhomfhfpaa
open Go.RowKit
set_option linter.unusedSimpArgs false
set_option linter.unusedVariables false
theorem ret_of {P : Program} {f : FuncId} {args : List DV} (hent : CanEnter P f) (h : FnC P f args (bD true)) (vs : Array Value) (w : World) (hg : Glo w) (hv : ∀ X, DVRs w X args vs.toList) : Calls P f vs w (Ret (.bool true) w) := by
  have := h.calls hent w (fun _ => False) vs.toList hg (fun _ h => h.elim) (hv _)
  refine Calls.mono (by simpa using this) ?_
  rintro e w' ⟨v, rfl, hr, hb⟩
  simp only [DVR] at hr
  cases hr
  exact ⟨rfl, hb⟩
theorem wf_i64 {n : Int} (h : (Lit.int .i64 n).wf = true) : I64 n := by simpa [Lit.wf, IntKind.min, IntKind.max, IntKind.bits, IntKind.signed] using h
theorem sz_str {s : ByteArray} (h : s.size ≤ maxLen) : Sz s.data.toList := by
  have hm : maxLen = 9223372036854775807 := by decide +kernel
  rw [hm] at h
  exact h
theorem val_D {w : World} {X : Nat → Prop} (k n : Int) (s : ByteArray) : DVR w X (vD (k, n, s.data.toList)) (.agg #[.int .i64 k, .int .i64 n, .string s]) := by
  have e : s = bs s.data.toList := bs_of s
  simp only [DVR]
  refine ⟨_, rfl, ?_⟩
  simp only [CVRs]
  exact ⟨.v _ rfl, .v _ rfl, by rw [← e]; exact .v _ rfl, trivial⟩
theorem int_D {w : World} {X : Nat → Prop} (n : Int) : DVR w X (iD n) (.int .i64 n) := by
  simp only [DVR]; exact .v _ rfl
theorem str_D {w : World} {X : Nat → Prop} (s : ByteArray) : DVR w X (sD s.data.toList) (.string s) := by
  have e : s = bs s.data.toList := bs_of s
  simp only [DVR]
  rw [← e]; exact .v _ rfl
end Go.Proofs.Ytdgjcdhomfhfpaa
