/- A symbolic run of Go code: what a tree owes, in words that can be read. No condition. -/
import Derived.Test.YtdgjcdhomfhfpaaAbN
namespace Go.Proofs.Ytdgjcdhomfhfpaa
open Go.RowKit
set_option linter.unusedSimpArgs false
set_option linter.unusedVariables false

def byteAt (s : ByteArray) (i : Int) : Int := ((s.data.getD i.toNat 0).toNat : Int)
def iteP (a b : E) (pc pa pb : Prop) : Prop :=
  match a, b with
  | .bool true, _ => pc ∨ pb
  | _, .bool false => pc ∧ pa
  | _, _ => (pc → pa) ∧ (¬ pc → pb)
def propB (ν : Nu) : E → Prop
  | .bool b => b = true
  | .lt a b => denI ν a < denI ν b
  | .le a b => denI ν a ≤ denI ν b
  | .eq a b => denI ν a = denI ν b
  | .eqb a b => denB ν a = denB ν b
  | .eqs a b => denS ν a = denS ν b
  | .not a => ¬ propB ν a
  | .and a b => propB ν a ∧ propB ν b
  | .ite c a b => iteP a b (propB ν c) (propB ν a) (propB ν b)
  | e => denB ν e = true
theorem propB_iff (ν : Nu) : ∀ (e : E), propB ν e ↔ denB ν e = true
  | .bool b => by simp [propB, denB]
  | .lt a b => by simp [propB, denB]
  | .le a b => by simp [propB, denB]
  | .eq a b => by simp [propB, denB]
  | .eqb a b => by simp [propB, denB]
  | .eqs a b => by
    simp only [propB, denB, beq_iff_eq]
    constructor
    · intro h; rw [h]
    · intro h
      apply ByteArray.ext
      apply Array.toList_inj.1
      simpa [Lib.toList_data] using h
  | .not a => by
    have := propB_iff ν a
    simp only [propB, denB, this]
    simp
  | .and a b => by
    simp only [propB, denB, propB_iff ν a, propB_iff ν b, Bool.and_eq_true]
  | .ite c a b => by
    have hc := propB_iff ν c
    have ha := propB_iff ν a
    have hb := propB_iff ν b
    simp only [propB, denB, hc, ha, hb]
    unfold iteP
    split
    · simp only [denB]
      cases denB ν c <;> simp
    · simp only [denB]
      cases denB ν c <;> simp
    · cases denB ν c <;> simp
  | .var _ | .int _ | .str _ | .add _ _ | .sub _ _ | .mul _ _ | .quo _ _ | .rem _ _ | .wr _ _ | .lts _ _ | .len _ | .byte _ _ | .cat _ _ | .cut _ _ _ | .clen _ | .cell _ _ _ | .drop _ _ | .take _ _ | .sOf _ | .rune _ _ | .runeW _ _ | .mpos _ _ | .shr _ _ | .shl _ _ _ | .band _ _ _ | .bor _ _ _ | .shrv _ _ _ | .shlv _ _ _ => by
    simp only [propB]
def guardP (ν : Nu) (g : E) (p : Prop) : Prop :=
  match g with
  | .bool true => p
  | g => propB ν g → p
theorem guardP_imp {ν : Nu} {g : E} {p : Prop} (h : guardP ν g p) : denB ν g = true → p := by
  unfold guardP at h
  split at h
  · exact fun _ => h
  · exact fun hg => h ((propB_iff ν _).2 hg)

def exD : List Srt → (Nu → Prop) → Prop
  | [], p => p []
  | .i :: r, p => ∃ z : Int, exD r fun l => p (.i z :: l)
  | .b :: r, p => ∃ z : Bool, exD r fun l => p (.b z :: l)
  | .s :: r, p => ∃ z : ByteArray, exD r fun l => p (.s z :: l)
  | .l :: r, p => ∃ z : List (List CV), exD r fun l => p (.l z :: l)
def allD : List Srt → (Nu → Prop) → Prop
  | [], p => p []
  | .i :: r, p => ∀ z : Int, allD r fun l => p (.i z :: l)
  | .b :: r, p => ∀ z : Bool, allD r fun l => p (.b z :: l)
  | .s :: r, p => ∀ z : ByteArray, allD r fun l => p (.s z :: l)
  | .l :: r, p => ∀ z : List (List CV), allD r fun l => p (.l z :: l)
def PredD : List Srt → Type
  | [] => Nat → Prop
  | .i :: r => Int → PredD r
  | .b :: r => Bool → PredD r
  | .s :: r => ByteArray → PredD r
  | .l :: r => List (List CV) → PredD r
def hdD : Nu → D
  | [] => .b false
  | d :: _ => d
def tlD : Nu → Nu
  | [] => []
  | _ :: r => r
def apD : (ss : List Srt) → PredD ss → Nu → Nat → Prop
  | [], I, _, k => I k
  | .i :: r, I, ds, k => apD r (I (hdD ds).int) (tlD ds) k
  | .b :: r, I, ds, k => apD r (I (hdD ds).bool) (tlD ds) k
  | .s :: r, I, ds, k => apD r (I (hdD ds).str) (tlD ds) k
  | .l :: r, I, ds, k => apD r (I (hdD ds).els) (tlD ds) k
def isD : List Srt → Nu → Prop
  | [], [] => True
  | .i :: r, .i _ :: l => isD r l
  | .b :: r, .b _ :: l => isD r l
  | .s :: r, .s _ :: l => isD r l
  | .l :: r, .l _ :: l => isD r l
  | _, _ => False
theorem isD_mk (ν : Nu) : ∀ (θ : List (Srt × E)), isD (θ.map (·.1)) (θ.map (mkD ν))
  | [] => trivial
  | (.i, _) :: r => isD_mk ν r
  | (.b, _) :: r => isD_mk ν r
  | (.s, _) :: r => isD_mk ν r
  | (.l, _) :: r => isD_mk ν r
theorem exD_of : ∀ (ss : List Srt) (p : Nu → Prop), exD ss p → ∃ ds : Nu, ds.length = ss.length ∧ p ds
  | [], p, h => ⟨[], rfl, h⟩
  | .i :: r, p, ⟨z, h⟩ => by
    obtain ⟨ds, hl, hp⟩ := exD_of r _ h
    exact ⟨_, by simp [hl], hp⟩
  | .b :: r, p, ⟨z, h⟩ => by
    obtain ⟨ds, hl, hp⟩ := exD_of r _ h
    exact ⟨_, by simp [hl], hp⟩
  | .s :: r, p, ⟨z, h⟩ => by
    obtain ⟨ds, hl, hp⟩ := exD_of r _ h
    exact ⟨_, by simp [hl], hp⟩
  | .l :: r, p, ⟨z, h⟩ => by
    obtain ⟨ds, hl, hp⟩ := exD_of r _ h
    exact ⟨_, by simp [hl], hp⟩
theorem allD_to : ∀ (ss : List Srt) (p : Nu → Prop), allD ss p → ∀ ds, isD ss ds → p ds
  | [], p, h, [], _ => h
  | [], p, h, _ :: _, hd => by simp [isD] at hd
  | .i :: r, p, h, .i z :: l, hd => allD_to r (fun l => p (.i z :: l)) (h z) l hd
  | .b :: r, p, h, .b z :: l, hd => allD_to r (fun l => p (.b z :: l)) (h z) l hd
  | .s :: r, p, h, .s z :: l, hd => allD_to r (fun l => p (.s z :: l)) (h z) l hd
  | .l :: r, p, h, .l z :: l, hd => allD_to r (fun l => p (.l z :: l)) (h z) l hd
  | _ :: _, p, h, [], hd => by simp [isD] at hd
  | .i :: _, p, h, .b _ :: _, hd | .i :: _, p, h, .s _ :: _, hd | .i :: _, p, h, .l _ :: _, hd => by simp [isD] at hd
  | .b :: _, p, h, .i _ :: _, hd | .b :: _, p, h, .s _ :: _, hd | .b :: _, p, h, .l _ :: _, hd => by simp [isD] at hd
  | .s :: _, p, h, .b _ :: _, hd | .s :: _, p, h, .i _ :: _, hd | .s :: _, p, h, .l _ :: _, hd => by simp [isD] at hd
  | .l :: _, p, h, .b _ :: _, hd | .l :: _, p, h, .s _ :: _, hd | .l :: _, p, h, .i _ :: _, hd => by simp [isD] at hd

mutual
def srts : LV → List Srt
  | .b _ => [.b]
  | .i _ _ => [.i]
  | .s _ => [.s]
  | .vs _ | .o _ => [.l]
  | .agg cs | .tup cs => srtss cs
  | _ => []
def srtss : List LV → List Srt
  | [] => []
  | v :: r => srts v ++ srtss r
end
def needP (ν : Nu) : List Need → Prop → Prop
  | [], p => p
  | n :: r, p => denN ν n ∧ needP ν r p
theorem needP_of {ν : Nu} {p : Prop} : ∀ (l : List Need), needP ν l p → denNs ν l ∧ p
  | [], h => ⟨fun n hn => by simp at hn, h⟩
  | n :: r, h => by
    obtain ⟨h1, h2⟩ := needP_of r h.2
    refine ⟨fun m hm => ?_, h2⟩
    rcases List.mem_cons.1 hm with rfl | hm
    · exact h.1
    · exact h1 m hm

/-- What a tree owes, to be read. -/
def denT (P : Program) (R : St → Option (List LV × List Need)) (res : DV) : (Nat → List Srt → Nu → Prop) → Nu → Tr → Prop
  | _, ν, .done _ S => match R S with
    | some (vs, ns) => needP ν ns (resDV ν vs = res)
    | none => False
  | Ag, ν, .br c t f => (propB ν c → denT P R res Ag ν t) ∧ (¬ propB ν c → denT P R res Ag ν f)
  | Ag, ν, .need g p t => guardP ν g (denN ν p) ∧ denT P R res Ag ν t
  | Ag, ν, .letC d t => ∀ l, l = denDC ν d → denT P R res Ag (ν ++ [.l l]) t
  | Ag, ν, .nil c t f => (denC ν c = [] → denT P R res Ag ν t) ∧ denT P R res Ag ν f
  | Ag, ν, .call md g f as_ sh n m t => match Nat.beq (n + (srts sh).length) m with
    | true => exD (srts sh) fun ds => guardP ν g (CallOK P md f (dvsOf ν as_) (dvOf (ν ++ ds) sh)) ∧ denT P R res Ag (ν ++ ds) t
    | false => False
  | Ag, ν, .loop m θ t => ∃ I : PredD (θ.map (·.1)), (∃ k, apD _ I (θ.map (mkD ν)) k) ∧
      ∀ k, allD (θ.map (·.1)) fun ds => apD _ I ds k → denT P R res (fun m' ss ds' => match Nat.beq m' m with
        | true => match decide (ss = θ.map (·.1)) with
          | true => ∃ k', k' < k ∧ apD _ I ds' k'
          | false => False
        | false => Ag m' ss ds') (ν ++ ds) t
  | Ag, ν, .again m θ => Ag m (θ.map (·.1)) (θ.map (mkD ν))
  | _, _, .stop _ _ => False
  | _, _, .fail _ => False

theorem isD_len : ∀ (ss : List Srt) (ds : Nu), isD ss ds → ds.length = ss.length
  | [], [], _ => rfl
  | [], _ :: _, h => by simp [isD] at h
  | _ :: _, [], h => by simp [isD] at h
  | q :: r, d :: ds, h => by
    cases q <;> cases d <;> simp [isD] at h <;> simp [isD_len r ds h]

theorem denT_den {P : Program} {R : St → Option (List LV × List Need)} {res : DV} : ∀ (t : Tr) (Ag : Nat → List Srt → Nu → Prop) (Ag' : Nu → Nat → List D → Prop) (ν : Nu), (∀ ν' m ss ds, isD ss ds → Ag m ss ds → Ag' ν' m ds) →
    denT P R res Ag ν t → den P (FinG R res) Ag' ν t
  | .done e S, Ag, Ag', ν, h, hd => by
    simp only [denT] at hd
    simp only [den]
    unfold FinG
    split at hd
    · rename_i vs ns he
      rw [he]
      exact needP_of _ hd
    · exact hd.elim
  | .br c t f, Ag, Ag', ν, h, hd => by
    simp only [denT] at hd
    refine ⟨fun hc => denT_den t Ag Ag' ν h (hd.1 ((propB_iff ν c).2 hc)), fun hc => denT_den f Ag Ag' ν h (hd.2 fun hp => ?_)⟩
    rw [(propB_iff ν c).1 hp] at hc
    cases hc
  | .need g p t, Ag, Ag', ν, h, hd => ⟨guardP_imp hd.1, denT_den t Ag Ag' ν h hd.2⟩
  | .letC d t, Ag, Ag', ν, h, hd => fun l hl => denT_den t Ag Ag' _ h (hd l hl)
  | .nil c t f, Ag, Ag', ν, h, hd => by
    simp only [denT] at hd
    exact ⟨fun hc => denT_den t Ag Ag' ν h (hd.1 hc), denT_den f Ag Ag' ν h hd.2⟩
  | .call md g f as_ sh n m t, Ag, Ag', ν, h, hd => by
    simp only [denT] at hd
    split at hd
    · rename_i hb
      obtain ⟨ds, hl, h1, h2⟩ := exD_of _ _ hd
      exact ⟨ds, by rw [hl]; exact Nat.eq_of_beq_eq_true hb, guardP_imp h1, denT_den t Ag Ag' _ h h2⟩
    · exact hd.elim
  | .loop m θ t, Ag, Ag', ν, h, hd => by
    simp only [denT] at hd
    obtain ⟨I, ⟨k0, hk0⟩, hI⟩ := hd
    refine ⟨fun ds k => isD (θ.map (·.1)) ds ∧ apD _ I ds k, ⟨k0, isD_mk ν θ, hk0⟩, fun k ds hl hi => ?_⟩
    refine denT_den t _ _ _ (fun ν' m' ss ds' hs hag => ?_) (allD_to _ _ (hI k) ds hi.1 hi.2)
    split at hag
    · rename_i hb
      rw [if_pos (Nat.eq_of_beq_eq_true hb)]
      split at hag
      · rename_i hss
        simp only [decide_eq_true_eq] at hss
        subst hss
        obtain ⟨k', hk', ha⟩ := hag
        exact ⟨k', hk', hs, ha⟩
      · exact hag.elim
    · rename_i hb
      rw [if_neg (fun e => by subst e; simp at hb)]
      exact h ν' m' ss ds' hs hag
  | .again m θ, Ag, Ag', ν, h, hd => h _ _ _ _ (isD_mk ν θ) hd
  | .stop _ _, Ag, Ag', ν, h, hd => hd
  | .fail _, Ag, Ag', ν, h, hd => hd

/-- From what is to be read to a contract. -/
theorem fnC_w {P : Program} {T : Tab} (hT : TOK P T) (hm : P.follows .mixedOrders = true) {B : FuncId → Option Func} (hB : ∀ f fn, B f = some fn → P.funcs[f]? = some fn) {f : FuncId} {fn : Func} (hf : P.funcs[f]? = some fn) (hn : (fn.name == "runtime.NumGoroutine") = false) (n : Nat) (ν : Nu) (ps : List LV)
    (ok : (match fn.body with | some _ => ps.all shapeB && Nat.ble ps.length fn.ntmps | none => false) = true) {res : DV} {as_ : List DV} {G : Prop}
    (hd : (denT P (fun S => resAll T S fn.results.toList) res (fun _ _ _ => False) ν (match fn.body with | some c => runB T B n (resMask fn.results.toList) .done 0 [.code c] ⟨ps ++ List.replicate (fn.ntmps - ps.length) (.tup []), [], ν.length, []⟩ | none => .fail 0)) = G)
    (ha : dvsOf ν ps = as_) (h : G) : FnC P f as_ res := by
  subst ha hd
  cases hb : fn.body with
  | none => rw [hb] at ok; simp at ok
  | some c =>
    rw [hb] at ok h
    simp only [Bool.and_eq_true] at ok
    exact fnC_of hT hm hB hf hn hb n ν ps ok.1 (by simpa using ok.2) (denT_den _ _ _ _ (fun _ _ _ _ _ h => h.elim) h)
/-- The same, of a function that is handed a row of its caller's own. -/
theorem fnM_w {P : Program} {T : Tab} (hT : TOK P T) (hm : P.follows .mixedOrders = true) {B : FuncId → Option Func} (hB : ∀ f fn, B f = some fn → P.funcs[f]? = some fn) {f : FuncId} {fn : Func} (hf : P.funcs[f]? = some fn) (hn : (fn.name == "runtime.NumGoroutine") = false) (n : Nat) (ν : Nu) (pre post : List LV) (k : Nat) (e : TypeId) (sz : Nat) (back : Bool)
    (ok : (match fn.body with | some _ => pre.all shapeB && post.all shapeB && Nat.ble (pre.length + 1 + post.length) fn.ntmps | none => false) = true) {c' : List (List CV)} (hl : back = false → c'.length = (denC ν (.var k)).length) {as_ : List DV} {G : Prop}
    (hd : (denT P (resM T back e sz fn.results.toList) (.c (.vs c')) (fun _ _ _ => False) ν (match fn.body with | some c => runB T B n (resMask fn.results.toList) .done 0 [.code c] ⟨(pre ++ .rs 0 1 (.int 0) (.clen (.var k)) :: post) ++ List.replicate (fn.ntmps - (pre.length + 1 + post.length)) (.tup []), [⟨1, .row (.var k) e sz⟩], ν.length, [.rs 0 1 (.int 0) (.clen (.var k))]⟩ | none => .fail 0)) = G)
    (ha : dvsOf ν (pre ++ .vs (.var k) :: post) = as_) (h : G) : FnM P ⟨pre.length, e, sz, back⟩ f as_ (.c (.vs c')) := by
  subst ha hd
  cases hb : fn.body with
  | none => rw [hb] at ok; simp at ok
  | some c =>
    rw [hb] at ok h
    simp only [Bool.and_eq_true] at ok
    exact fnM_of hT hm hB hf hn hb n ν pre post k e sz back ok.1.1 ok.1.2 (by simpa using ok.2) hl (denT_den _ _ _ _ (fun _ _ _ _ _ h => h.elim) h)
end Go.Proofs.Ytdgjcdhomfhfpaa
