/- A law for a region that draws its order: calm operations (they read, or call a function that only makes memory), one variable that is made (its operation waits for nothing), one store into it. No condition. -/
import Derived.Test.YtbgndledcnfceaaBase
namespace Go.Proofs.Ytbgndledcnfceaa
open Go.ChangeShapes Go.WideShapes Go.ChangeAt Go.RowKit

/-- What is asked of a calm operation that has been carried out in the world w. -/
def calmUpon (P : Program) (w : World) (v : Value) : Result Next → Prop
  | .ok (.value u) w' => w' = w ∧ u = v
  | .ok .skip w' => w' = w ∧ v = undef
  | .ok (.enter f args) w' => w' = w ∧ Calls P f args w (Ret v w)
  | _ => False
/-- One value, in every later world. -/
def calm (P : Program) (o : Oper) (a : Act) (W : World) (next : Act → Prop) : Prop := ∃ v, (∀ x : Later W, calmUpon P (W.plus x) v ((execOp a.eval o).run P (W.plus x))) ∧ next (a.put o.dst v)
/-- The walk in the order of the text, the two operations that write left out. -/
def wpCalm (P : Program) (ops : Array Oper) (W : World) (ia ib : Nat) (Q : Act → Prop) : Nat → List Oper → Act → Prop
  | _, [], a => Q a
  | k, o :: rest, a => if k = ia ∨ k = ib then wpCalm P ops W ia ib Q (k + 1) rest a else if Region.wanted o (yielded ops a.tmps) then calm P o a W (wpCalm P ops W ia ib Q (k + 1) rest) else wpCalm P ops W ia ib Q (k + 1) rest (a.put o.dst undef)

section
variable {P : Program} {ops : Array Oper} {W : World} {ia ib : Nat}

/-- a and a' hold the same in the slots that an operation looks at -/
def SameOn (l : List Tmp) (a a' : Act) : Prop := ∀ s ∈ l, a.tmps[s]? = a'.tmps[s]?
theorem SameOn.eval {o : Oper} {a a' : Act} (h : SameOn (o.looksAt ops) a a') (hs : ∀ cs b, o.op ≠ .select cs b) : execOp a.eval o = execOp a'.eval o := by
  refine execOp_congr o hs fun x hx => ?_
  cases x with
  | tmp t =>
    have := h t (List.mem_append_left _ (List.mem_filterMap.2 ⟨.tmp t, by simpa using hx, rfl⟩))
    simp only [Act.eval, Array.getD_eq_getD_getElem?, this]
  | const v => rfl
  | global g => rfl
  | func f => rfl
theorem SameOn.wanted {o : Oper} {a a' : Act} (h : SameOn (o.looksAt ops) a a') : Region.wanted o (yielded ops a.tmps) = Region.wanted o (yielded ops a'.tmps) := by
  unfold Region.wanted
  cases hg : o.guard with
  | none => rfl
  | some gw =>
    obtain ⟨g, want⟩ := gw
    have hy : yielded ops a.tmps g = yielded ops a'.tmps g := by
      unfold yielded
      cases ht : (ops[g]?).bind (·.dst) with
      | none => rfl
      | some t =>
        have := h t (by simp [Oper.looksAt, hg, ht])
        simp [this]
    simp only [hy]

/-- operation o, in every frame that looks like a to it, is calm and yields v (or is passed over) -/
def YieldsC (P : Program) (ops : Array Oper) (W : World) (o : Oper) (v : Value) (a : Act) : Prop :=
  ∀ a', SameOn (o.looksAt ops) a' a → (Region.wanted o (yielded ops a'.tmps) = true ∧ ∀ x : Later W, calmUpon P (W.plus x) v ((execOp a'.eval o).run P (W.plus x))) ∨ (Region.wanted o (yielded ops a'.tmps) = false ∧ v = undef)

/-- the frame behind the operations that are listed -/
structure Agree (ops : Array Oper) (vals : Nat → Value) (a0 : Act) (done : Nat → Prop) (a : Act) : Prop where
  size : a.tmps.size = a0.tmps.size
  defers : a.defers = a0.defers
  own : ∀ i o d, ops[i]? = some o → o.dst = some d → done i → d < a0.tmps.size → a.tmps[d]? = some (vals i)
  rest : ∀ s, (∀ i o, ops[i]? = some o → o.dst = some s → ¬ done i) → a.tmps[s]? = a0.tmps[s]?

/-- no two operations write one slot -/
def Apart (ops : Array Oper) : Prop := ∀ (i j : Nat) (oi oj : Oper) (d : Tmp), ops[i]? = some oi → ops[j]? = some oj → oi.dst = some d → oj.dst = some d → i = j

theorem put_size (a : Act) (dst : Option Tmp) (v : Value) : (a.put dst v).tmps.size = a.tmps.size := by cases dst <;> simp [Act.put]
theorem put_defers (a : Act) (dst : Option Tmp) (v : Value) : (a.put dst v).defers = a.defers := by cases dst <;> simp [Act.put]
theorem put_at (a : Act) (d : Tmp) (v : Value) (h : d < a.tmps.size) : (a.put (some d) v).tmps[d]? = some v := by simp [Act.put, h]
theorem put_ne (a : Act) (dst : Option Tmp) (s : Tmp) (v : Value) (h : dst ≠ some s) : (a.put dst v).tmps[s]? = a.tmps[s]? := by
  cases dst with
  | none => rfl
  | some d => simp only [Act.put]; exact Array.getElem?_setIfInBounds_ne (fun e => h (by rw [e]))

theorem Agree.put {vals : Nat → Value} {a0 a : Act} {done : Nat → Prop} (h : Agree ops vals a0 done a) (hap : Apart ops) {i : Nat} {o : Oper} (hi : ops[i]? = some o) {done' : Nat → Prop} (hd : ∀ j, done' j ↔ done j ∨ j = i) :
    Agree ops vals a0 done' (a.put o.dst (vals i)) := by
  refine ⟨by rw [put_size, h.size], by rw [put_defers, h.defers], fun j oj d hj hjd hdj hsz => ?_, fun s hs => ?_⟩
  · by_cases e : j = i
    · subst e
      obtain rfl : oj = o := Option.some.inj (hj.symm.trans hi)
      rw [hjd]
      exact put_at _ _ _ (by rw [h.size]; exact hsz)
    · have hne : o.dst ≠ some d := fun e2 => e (hap j i oj o d hj hi hjd e2)
      rw [put_ne _ _ _ _ hne]
      exact h.own j oj d hj hjd (((hd j).1 hdj).resolve_right e) hsz
  · have hne : o.dst ≠ some s := fun e2 => hs i o hi e2 ((hd i).2 (.inr rfl))
    rw [put_ne _ _ _ _ hne]
    exact h.rest s fun j oj hj hjd hdj => hs j oj hj hjd ((hd j).2 (.inl hdj))

/-- Two such frames hold the same in a slot if the operation that writes it is done in both or in neither. -/
theorem Agree.same {vals : Nat → Value} {a0 a a' : Act} {done done' : Nat → Prop} (h : Agree ops vals a0 done a) (h' : Agree ops vals a0 done' a') (s : Tmp) (hs : ∀ i o, ops[i]? = some o → o.dst = some s → (done i ↔ done' i)) : a.tmps[s]? = a'.tmps[s]? := by
  by_cases hex : ∃ i o, ops[i]? = some o ∧ o.dst = some s ∧ done i
  · obtain ⟨i, o, hi, hd, hdn⟩ := hex
    by_cases hsz : s < a0.tmps.size
    · rw [h.own i o s hi hd hdn hsz, h'.own i o s hi hd ((hs i o hi hd).1 hdn) hsz]
    · rw [Array.getElem?_eq_none (by rw [h.size]; exact Nat.le_of_not_lt hsz), Array.getElem?_eq_none (by rw [h'.size]; exact Nat.le_of_not_lt hsz)]
  · rw [h.rest s fun i o hi hd hdn => hex ⟨i, o, hi, hd, hdn⟩, h'.rest s fun i o hi hd hdn => hex ⟨i, o, hi, hd, (hs i o hi hd).2 hdn⟩]

theorem Agree.congr {vals vals' : Nat → Value} {a0 a : Act} {done done' : Nat → Prop} (h : Agree ops vals a0 done a) (hd : ∀ i, i < ops.size → (done i ↔ done' i)) (hv : ∀ i, done i → vals i = vals' i) : Agree ops vals' a0 done' a := by
  have hlt : ∀ {i : Nat} {o : Oper}, ops[i]? = some o → i < ops.size := fun hi => (Array.getElem?_eq_some_iff.1 hi).1
  refine ⟨h.size, h.defers, fun i o d hi hd' hdn hsz => ?_, fun s hs => ?_⟩
  · have := (hd i (hlt hi)).2 hdn
    rw [← hv i this]
    exact h.own i o d hi hd' this hsz
  · exact h.rest s fun i o hi hds hdn => hs i o hi hds ((hd i (hlt hi)).1 hdn)

theorem wpCalm_vals {Q : Act → Prop} (hns : Region.noSelect ops = true) (hap : Apart ops) : ∀ (l : List Oper) (k : Nat) (a a0 : Act) (vals0 : Nat → Value), (∀ j, l[j]? = ops[k + j]?) → k + l.length = ops.size →
    Agree ops vals0 a0 (fun i => i < k ∧ i ≠ ia ∧ i ≠ ib) a → wpCalm P ops W ia ib Q k l a →
    ∃ vals aC, (∀ i, i < k → vals i = vals0 i) ∧ Agree ops vals a0 (fun i => i < ops.size ∧ i ≠ ia ∧ i ≠ ib) aC ∧ Q aC ∧
      ∀ i o, k ≤ i → i ≠ ia → i ≠ ib → ops[i]? = some o → ∃ ai, Agree ops vals a0 (fun j => j < i ∧ j ≠ ia ∧ j ≠ ib) ai ∧ YieldsC P ops W o (vals i) ai
  | [], k, a, a0, vals0, hl, hk, hA, h => by
    have hk' : k = ops.size := by simpa using hk
    subst hk'
    refine ⟨vals0, a, fun _ _ => rfl, hA, h, fun i o hi _ _ ho => ?_⟩
    have := (Array.getElem?_eq_some_iff.1 ho).1
    omega
  | o :: rest, k, a, a0, vals0, hl, hk, hA, h => by
    have h0 : ops[k]? = some o := by simpa using (hl 0).symm
    have hl' : ∀ j, rest[j]? = ops[k + 1 + j]? := fun j => by have := hl (j + 1); simpa [Nat.add_assoc, Nat.add_comm 1 j] using this
    have hk' : k + 1 + rest.length = ops.size := by simp only [List.length_cons] at hk; omega
    unfold wpCalm at h
    by_cases hsk : k = ia ∨ k = ib
    · rw [if_pos hsk] at h
      obtain ⟨vals, aC, hv, hC, hQ, hY⟩ := wpCalm_vals hns hap rest (k + 1) a a0 vals0 hl' hk' (hA.congr (fun i _ => by omega) (fun _ _ => rfl)) h
      refine ⟨vals, aC, fun i hi => hv i (by omega), hC, hQ, fun i oi hi h1 h2 ho => hY i oi (by omega) h1 h2 ho⟩
    · rw [if_neg hsk] at h
      -- the value that the operation yields
      have hcase : ∃ v, YieldsC P ops W o v a ∧ wpCalm P ops W ia ib Q (k + 1) rest (a.put o.dst v) := by
        by_cases hw : Region.wanted o (yielded ops a.tmps) = true
        · rw [if_pos hw] at h
          obtain ⟨v, h1, h2⟩ := h
          refine ⟨v, fun a' hs => .inl ⟨by rw [hs.wanted]; exact hw, fun x => ?_⟩, h2⟩
          rw [hs.eval (Region.noSelect_spec hns k o · · h0)]
          exact h1 x
        · rw [if_neg hw] at h
          exact ⟨undef, fun a' hs => .inr ⟨by rw [hs.wanted]; simpa using hw, rfl⟩, h⟩
      obtain ⟨v, hy, hrest⟩ := hcase
      have hA1 : Agree ops (fun i => if i = k then v else vals0 i) a0 (fun i => i < k ∧ i ≠ ia ∧ i ≠ ib) a := hA.congr (fun _ _ => Iff.rfl) (fun i hi => by rw [if_neg (by omega)])
      have hA2 := hA1.put hap h0 (done' := fun i => i < k + 1 ∧ i ≠ ia ∧ i ≠ ib) (fun j => by omega)
      simp only [if_true] at hA2
      obtain ⟨vals, aC, hv, hC, hQ, hY⟩ := wpCalm_vals hns hap rest (k + 1) (a.put o.dst v) a0 _ hl' hk' hA2 hrest
      refine ⟨vals, aC, fun i hi => by rw [hv i (by omega), if_neg (by omega)], hC, hQ, fun i oi hi h1 h2 ho => ?_⟩
      by_cases e : i = k
      · subst e
        obtain rfl : oi = o := Option.some.inj (ho.symm.trans h0)
        refine ⟨a, hA.congr (fun _ _ => Iff.rfl) (fun j hj => by rw [hv j (by omega), if_neg (by omega)]), ?_⟩
        rw [hv i (by omega), if_pos rfl]
        exact hy
      · exact hY i oi (by omega) h1 h2 ho

/-- what the region's edges must give (all of it is decided by a Bool below) -/
structure Fits (ops : Array Oper) (ia ib : Nat) (oa ob : Oper) (d : Tmp) : Prop where
  ha : ops[ia]? = some oa
  hb : ops[ib]? = some ob
  ne : ia ≠ ib
  dsta : oa.dst = some d
  dstb : ob.dst = none
  freea : oa.guard = none ∧ oa.looksAt ops = []
  freeb : ob.guard = none
  lower : ∀ (i : Nat) (o : Oper), ops[i]? = some o → ∀ e ∈ o.after, Region.binds .any e = true → e.on < i
  deps : ∀ (i : Nat) (o : Oper) (s : Tmp) (j : Nat) (oj : Oper), ops[i]? = some o → s ∈ o.looksAt ops → ops[j]? = some oj → oj.dst = some s → ∃ e ∈ o.after, Region.binds .any e = true ∧ e.on = j
  only : ∀ (i : Nat) (o : Oper), ops[i]? = some o → i ≠ ib → d ∉ o.looksAt ops
  waits : ∃ e ∈ ob.after, Region.binds .any e = true ∧ e.on = ia

structure FInv (ops : Array Oper) (W : World) (ia ib : Nat) (vals : Nat → Nat → Value) (a0 : Act) (Z Z2 : Array Value) (T : TypeId) (B : Nat) (listed : Array Bool) (a : Act) (w : World) : Prop where
  agree : Agree ops (vals B) a0 (fun i => listed.getD i false = true) a
  below : Below W.heap.size W w
  ord : listed.getD ib false = true → listed.getD ia false = true
  mem : listed.getD ia false = true → W.heap.size ≤ B ∧ w.heap[B]? = some (.cells (if listed.getD ib false = true then Z2 else Z) T)

theorem getD_set_self (l : Array Bool) (i : Nat) (h : i < l.size) : (l.setIfInBounds i true).getD i false = true := by
  simp [Array.getD_eq_getD_getElem?, h]
theorem getD_set_iff (l : Array Bool) (i j : Nat) (h : i < l.size) : (l.setIfInBounds i true).getD j false = true ↔ l.getD j false = true ∨ j = i := by
  by_cases e : j = i
  · subst e; simp [Array.getD_eq_getD_getElem?, h]
  · simp [Array.getD_eq_getD_getElem?, Array.getElem?_setIfInBounds_ne (Ne.symm e), e]
theorem count_set (l : Array Bool) (i : Nat) (h : i < l.size) (hf : l.getD i true = false) : (l.setIfInBounds i true).count false + 1 = l.count false := by
  have hv : l[i] = false := by simpa [Array.getD_eq_getD_getElem?, h] using hf
  rw [Array.setIfInBounds_def, dif_pos h, Array.count_set]
  have hpos : 0 < l.count false := Array.count_pos_iff.2 (by rw [← hv]; exact Array.getElem_mem h)
  simp [hv]
  omega
theorem listed_all (l : Array Bool) (h : l.count false = 0) (i : Nat) (hi : i < l.size) : l.getD i false = true := by
  have hn : false ∉ l := by
    intro hm
    have := Array.count_pos_iff.2 hm
    omega
  have : l[i] ≠ false := fun e => hn (by rw [← e]; exact Array.getElem_mem hi)
  simpa [Array.getD_eq_getD_getElem?, hi] using this

theorem unlisted_min (l : Array Bool) (h : ∃ i, i < l.size ∧ l.getD i true = false) : ∃ i, i < l.size ∧ l.getD i true = false ∧ ∀ j, j < i → l.getD j false = true := by
  obtain ⟨i, hi, hf⟩ := h
  induction i using Nat.strongRecOn with
  | _ i ih =>
    by_cases hm : ∀ j, j < i → l.getD j false = true
    · exact ⟨i, hi, hf, hm⟩
    · simp only [Classical.not_forall] at hm
      obtain ⟨j, hj, hjf⟩ := hm
      have hjs : j < l.size := by omega
      exact ih j hj hjs (by simpa [Array.getD_eq_getD_getElem?, hjs] using hjf)

theorem float_any {Q : Exit → Act → World → Prop} {oa ob : Oper} {d : Tmp} {a0 aC : Act} {Z Z2 : Array Value} {T : TypeId} (F : Fits ops ia ib oa ob d) (hns : Region.noSelect ops = true) (hap : Apart ops) (vals : Nat → Nat → Value)
    (hva : ∀ B, vals B ia = .pointer (some ⟨B, 0, none⟩)) (hvi : ∀ B B' i, i ≠ ia → vals B i = vals B' i)
    (hY : ∀ i o, i ≠ ia → i ≠ ib → ops[i]? = some o → ∃ ai, Agree ops (vals 0) a0 (fun j => j < i ∧ j ≠ ia ∧ j ≠ ib) ai ∧ YieldsC P ops W o (vals 0 i) ai)
    (hC : Agree ops (vals 0) a0 (fun i => i < ops.size ∧ i ≠ ia ∧ i ≠ ib) aC)
    (hA : ∀ (a : Act) (w : World), (execOp a.eval oa).run P w = .ok (.value (.pointer (some ⟨w.heap.size, 0, none⟩))) (w.alloc (.cells Z T)))
    (hS : ∀ (B : Nat) (w : World), W.heap.size ≤ B → w.heap[B]? = some (.cells Z T) → ∃ w2, (execOp (aC.put (some d) (.pointer (some ⟨B, 0, none⟩))).eval ob).run P w = .ok .skip w2 ∧ w2.heap[B]? = some (.cells Z2 T) ∧
      (∀ k, k ≠ B → w2.heap[k]? = w.heap[k]?) ∧ w2.heap.size = w.heap.size ∧ w2.os = w.os ∧ w2.tape = w.tape ∧ w2.output = w.output)
    (hQ : ∀ (B : Nat) (w' : World), W.heap.size ≤ B → w'.heap[B]? = some (.cells Z2 T) → Below W.heap.size W w' → Q .normal (aC.put (some d) (.pointer (some ⟨B, 0, none⟩))) w') :
    ∀ (fuel : Nat) (listed : Array Bool) (a : Act) (w : World) (B : Nat), listed.size = ops.size → listed.count false ≤ fuel → FInv ops W ia ib vals a0 Z Z2 T B listed a w → wpAny P .any ops Q fuel listed a w := by
  have hlt : ∀ {i : Nat} {o : Oper}, ops[i]? = some o → i < ops.size := fun hi => (Array.getElem?_eq_some_iff.1 hi).1
  -- the frame with the variable made
  have hCB : ∀ B, Agree ops (vals B) a0 (fun i => i < ops.size ∧ i ≠ ib) (aC.put (some d) (.pointer (some ⟨B, 0, none⟩))) := fun B => by
    have h1 := (hC.congr (vals' := vals B) (fun _ _ => Iff.rfl) (fun i hi => hvi 0 B i hi.2.1)).put hap F.ha (done' := fun i => i < ops.size ∧ i ≠ ib) (fun j => by have := hlt F.ha; have := F.ne; omega)
    rw [F.dsta, hva] at h1
    exact h1
  -- the end
  have hend : ∀ (listed : Array Bool) (a : Act) (w : World) (B : Nat), (∀ i, i < ops.size → listed.getD i false = true) → FInv ops W ia ib vals a0 Z Z2 T B listed a w → Q .normal a w := fun listed a w B hall h => by
    have hm := h.mem (hall ia (hlt F.ha))
    rw [if_pos (hall ib (hlt F.hb))] at hm
    have he : a = aC.put (some d) (.pointer (some ⟨B, 0, none⟩)) := by
      have h2 := hCB B
      have ht : a.tmps = (aC.put (some d) (.pointer (some ⟨B, 0, none⟩))).tmps := by
        apply Array.ext_getElem?
        intro s
        refine h.agree.same h2 s fun i o hi hd => ?_
        have hne : i ≠ ib := fun e => by
          subst e
          obtain rfl : o = ob := Option.some.inj (hi.symm.trans F.hb)
          rw [F.dstb] at hd; cases hd
        exact ⟨fun _ => ⟨hlt hi, hne⟩, fun _ => hall i (hlt hi)⟩
      cases a; cases haC : aC.put (some d) (.pointer (some ⟨B, 0, none⟩))
      rw [haC] at ht h2
      have hdf := h.agree.defers.trans h2.defers.symm
      simp only at ht hdf
      rw [ht, hdf]
    rw [he]
    exact hQ B w hm.1 hm.2 h.below
  intro fuel
  induction fuel with
  | zero =>
    intro listed a w B hsz hc h
    have hall := listed_all listed (by omega)
    refine ⟨?_, hend listed a w B (fun i hi => hall i (by omega)) h⟩
    rw [List.eq_nil_iff_forall_not_mem]
    intro j hj
    obtain ⟨hjf, o, ho, _⟩ := mem_ready.1 hj
    have h1 := hall j (by have := hlt ho; omega)
    have hjs : j < listed.size := by have := hlt ho; omega
    simp [Array.getD_eq_getD_getElem?, hjs] at h1 hjf
    rw [h1] at hjf; cases hjf
  | succ fuel ih =>
    intro listed a w B hsz hc h
    refine ⟨fun hr => ?_, fun i hi => ?_⟩
    · refine hend listed a w B (fun j hj => ?_) h
      by_cases hj' : listed.getD j false = true
      · exact hj'
      · exfalso
        have hjs : j < listed.size := by omega
        have hjf : listed.getD j true = false := by simpa [Array.getD_eq_getD_getElem?, hjs] using hj'
        obtain ⟨m, hm, hmf, hml⟩ := unlisted_min listed ⟨j, hjs, hjf⟩
        obtain ⟨o, ho⟩ : ∃ o, ops[m]? = some o := ⟨ops[m]'(by omega), Array.getElem?_eq_getElem _⟩
        have : m ∈ Region.ready .any ops listed := mem_ready.2 ⟨hmf, o, ho, fun e he hb => hml _ (F.lower m o ho e he hb)⟩
        rw [hr] at this; cases this
    · obtain ⟨hif, o, ho, hall⟩ := mem_ready.1 hi
      have his : i < listed.size := by have := hlt ho; omega
      have hcs := count_set listed i his hif
      have hif' : ¬ listed.getD i false = true := by
        intro hh
        simp [Array.getD_eq_getD_getElem?, his] at hh hif
        rw [hh] at hif; cases hif
      have hsz' : (listed.setIfInBounds i true).size = ops.size := by simpa using hsz
      have hgo := fun a' w' B' => ih (listed.setIfInBounds i true) a' w' B' hsz' (by omega)
      have hset := fun j => getD_set_iff listed i j his
      unfold wpOp
      rw [ho]
      simp only
      by_cases ea : i = ia
      · -- the variable is made
        subst ea
        obtain rfl : o = oa := Option.some.inj (ho.symm.trans F.ha)
        have hw : Region.wanted o (yielded ops a.tmps) = true := by simp [Region.wanted, F.freea.1]
        rw [if_pos hw]
        refine .inl ?_
        unfold Oper.wp
        rw [hA a w]
        simp only [Oper.upon]
        refine hgo _ _ w.heap.size ⟨?_, h.below.alloc h.below.size _, fun hb => ?_, fun _ => ?_⟩
        · have h1 := (h.agree.congr (vals' := vals w.heap.size) (fun _ _ => Iff.rfl) (fun j hj => hvi _ _ j (fun e => hif' (by rw [← e]; exact hj)))).put hap ho (done' := fun j => (listed.setIfInBounds i true).getD j false = true) hset
          rw [hva] at h1
          exact h1
        · exact (hset i).2 (.inr rfl)
        · have hib : ¬ (listed.setIfInBounds i true).getD ib false = true := fun hb => by
            rcases (hset ib).1 hb with hb | hb
            · exact hif' (h.ord hb)
            · exact F.ne hb.symm
          rw [if_neg hib]
          refine ⟨h.below.size, ?_⟩
          show (w.heap.push _)[w.heap.size]? = _
          simp
      · by_cases eb : i = ib
        · -- the store
          subst eb
          obtain rfl : o = ob := Option.some.inj (ho.symm.trans F.hb)
          have hia : listed.getD ia false = true := by
            obtain ⟨e, he, hb, hon⟩ := F.waits
            rw [← hon]; exact hall e he hb
          have hm := h.mem hia
          rw [if_neg hif'] at hm
          obtain ⟨w2, hrun, h2, hoth, hs2, hos, htp, hout⟩ := hS B w hm.1 hm.2
          have hsame : SameOn (o.looksAt ops) a (aC.put (some d) (.pointer (some ⟨B, 0, none⟩))) := fun s hs => by
            refine h.agree.same (hCB B) s fun j oj hj hjd => ?_
            obtain ⟨e, he, hb, hon⟩ := F.deps i o s j oj ho hs hj hjd
            have hl := hall e he hb
            rw [hon] at hl
            refine ⟨fun _ => ⟨hlt hj, fun e2 => ?_⟩, fun _ => hl⟩
            subst e2
            obtain rfl : oj = o := Option.some.inj (hj.symm.trans ho)
            rw [F.dstb] at hjd; cases hjd
          have hw : Region.wanted o (yielded ops a.tmps) = true := by simp [Region.wanted, F.freeb]
          rw [if_pos hw]
          refine .inl ?_
          unfold Oper.wp
          rw [hsame.eval (Region.noSelect_spec hns i o · · ho), hrun]
          simp only [Oper.upon]
          refine hgo _ _ B ⟨?_, ?_, fun _ => (hset ia).2 (.inl hia), fun _ => ?_⟩
          · have h1 := h.agree.put hap ho (done' := fun j => (listed.setIfInBounds i true).getD j false = true) hset
            rw [F.dstb] at h1 ⊢
            exact h1
          · exact h.below.trans ⟨hos, htp, hout, by omega, fun k hk => hoth k (by omega)⟩
          · rw [if_pos ((hset i).2 (.inr rfl))]
            exact ⟨hm.1, h2⟩
        · -- a calm operation
          obtain ⟨ai, hai, hy⟩ := hY i o ea eb ho
          have hvb : vals B i = vals 0 i := hvi B 0 i ea
          have haiB : Agree ops (vals B) a0 (fun j => j < i ∧ j ≠ ia ∧ j ≠ ib) ai := hai.congr (fun _ _ => Iff.rfl) (fun j hj => hvi 0 B j hj.2.1)
          have hsame : SameOn (o.looksAt ops) a ai := fun s hs => by
            refine h.agree.same haiB s fun j oj hj hjd => ?_
            obtain ⟨e, he, hb, hon⟩ := F.deps i o s j oj ho hs hj hjd
            have hl := hall e he hb
            have hlow := F.lower i o ho e he hb
            rw [hon] at hl hlow
            refine ⟨fun _ => ⟨hlow, fun e2 => ?_, fun e2 => ?_⟩, fun _ => hl⟩
            · subst e2
              obtain rfl : oj = oa := Option.some.inj (hj.symm.trans F.ha)
              rw [F.dsta] at hjd
              obtain rfl : d = s := Option.some.inj hjd
              exact F.only i o ho eb hs
            · subst e2
              obtain rfl : oj = ob := Option.some.inj (hj.symm.trans F.hb)
              rw [F.dstb] at hjd; cases hjd
          have hkeep : ∀ w'', Below w.heap.size w w'' → FInv ops W ia ib vals a0 Z Z2 T B (listed.setIfInBounds i true) (a.put o.dst (vals B i)) w'' := fun w'' hb => by
            refine ⟨h.agree.put hap ho hset, h.below.trans (hb.mono h.below.size), fun hib => ?_, fun hia => ?_⟩
            · rcases (hset ib).1 hib with hib | hib
              · exact (hset ia).2 (.inl (h.ord hib))
              · exact absurd hib.symm eb
            · rcases (hset ia).1 hia with hia | hia
              · have hm := h.mem hia
                have hBlt : B < w.heap.size := by
                  by_cases hlt' : B < w.heap.size
                  · exact hlt'
                  · rw [Array.getElem?_eq_none (Nat.le_of_not_lt hlt')] at hm
                    exact absurd hm.2 (by simp)
                have hib : ((listed.setIfInBounds i true).getD ib false = true) ↔ (listed.getD ib false = true) := ⟨fun hh => ((hset ib).1 hh).resolve_right (fun e => eb e.symm), fun hh => (hset ib).2 (.inl hh)⟩
                refine ⟨hm.1, ?_⟩
                rw [hb.block B hBlt, hm.2]
                by_cases hh : listed.getD ib false = true
                · rw [if_pos hh, if_pos (hib.2 hh)]
                · rw [if_neg hh, if_neg (fun h3 => hh (hib.1 h3))]
              · exact absurd hia.symm ea
          rcases hy a hsame with ⟨hw, hcalm⟩ | ⟨hw, hv⟩
          · rw [if_pos hw]
            refine .inl ?_
            have hc' := hcalm ⟨w, h.below⟩
            unfold Oper.wp
            have hpl : W.plus ⟨w, h.below⟩ = w := rfl
            rw [hpl] at hc'
            generalize (execOp a.eval o).run P w = r at *
            cases r with
            | ok n w' =>
              cases n <;> simp only [calmUpon] at hc' <;> simp only [Oper.upon]
              case value u =>
                obtain ⟨e1, e2⟩ := hc'
                rw [e1, e2, ← hvb]
                exact hgo _ _ B (hkeep w (Below.refl _ _))
              case skip =>
                obtain ⟨e1, e2⟩ := hc'
                rw [e1, ← e2, ← hvb]
                exact hgo _ _ B (hkeep w (Below.refl _ _))
              case enter f args =>
                obtain ⟨e1, hcl⟩ := hc'
                rw [e1]
                exact hcl.mono fun e w'' ⟨he, hb⟩ => by
                  subst he
                  simp only
                  rw [← hvb]
                  exact hgo _ _ B (hkeep w'' hb)
            | halt x w' => simp only [calmUpon] at hc'
          · rw [if_neg (by rw [hw]; simp)]
            rw [← hv, ← hvb]
            exact hgo _ _ B (hkeep w (Below.refl _ _))

def floatRow (ops : Array Oper) (ib : Nat) (d : Tmp) (i : Nat) (o : Oper) : Bool :=
  (o.after.all fun e => !Region.binds .any e || decide (e.on < i)) && (decide (i = ib) || !(o.looksAt ops).contains d) &&
  (List.range ops.size).all fun j => match ops[j]? with
    | none => true
    | some oj => match oj.dst with
      | none => true
      | some s => (!(o.looksAt ops).contains s || o.after.any fun e => Region.binds .any e && e.on == j) && (o.dst != some s || i == j)
/-- the edges fit: decided by looking -/
def floatB (ops : Array Oper) (ia ib : Nat) (d : Tmp) : Bool :=
  Region.noSelect ops && decide (ia ≠ ib) &&
  (match ops[ia]? with | some oa => oa.dst == some d && oa.guard.isNone && (oa.looksAt ops).isEmpty | none => false) &&
  (match ops[ib]? with | some ob => ob.dst.isNone && ob.guard.isNone && ob.after.any (fun e => Region.binds .any e && e.on == ia) | none => false) &&
  (List.range ops.size).all fun i => match ops[i]? with | none => true | some o => floatRow ops ib d i o

theorem floatB_spec {d : Tmp} (h : floatB ops ia ib d = true) : Region.noSelect ops = true ∧ Apart ops ∧ ∃ oa ob, Fits ops ia ib oa ob d := by
  unfold floatB at h
  simp only [Bool.and_eq_true, decide_eq_true_eq] at h
  obtain ⟨⟨⟨⟨h1, h2⟩, h3⟩, h4⟩, h5⟩ := h
  have hrow : ∀ (i : Nat) (o : Oper), ops[i]? = some o → floatRow ops ib d i o = true := fun i o hi => by
    have hlt := (Array.getElem?_eq_some_iff.1 hi).1
    have := List.all_eq_true.1 h5 i (List.mem_range.2 hlt)
    rw [hi] at this
    exact this
  have hrow2 : ∀ (i : Nat) (o : Oper) (j : Nat) (oj : Oper) (s : Tmp), ops[i]? = some o → ops[j]? = some oj → oj.dst = some s →
      ((o.looksAt ops).contains s = false ∨ (o.after.any fun e => Region.binds .any e && e.on == j) = true) ∧ (o.dst ≠ some s ∨ i = j) := fun i o j oj s hi hj hd => by
    have hlt := (Array.getElem?_eq_some_iff.1 hj).1
    have := hrow i o hi
    unfold floatRow at this
    simp only [Bool.and_eq_true] at this
    have := List.all_eq_true.1 this.2 j (List.mem_range.2 hlt)
    rw [hj] at this
    simp only [hd, Bool.and_eq_true, Bool.or_eq_true, Bool.not_eq_true', bne_iff_ne, beq_iff_eq] at this
    exact this
  refine ⟨h1, fun i j oi oj s hi hj hdi hdj => ?_, ?_⟩
  · have := (hrow2 i oi j oj s hi hj hdj).2
    rcases this with h | h
    · exact absurd hdi h
    · exact h
  · cases ha : ops[ia]? with
    | none => rw [ha] at h3; simp at h3
    | some oa =>
      cases hb : ops[ib]? with
      | none => rw [hb] at h4; simp at h4
      | some ob =>
        rw [ha] at h3
        rw [hb] at h4
        simp only [Bool.and_eq_true, beq_iff_eq, Option.isNone_iff_eq_none, List.isEmpty_iff] at h3 h4
        obtain ⟨⟨a1, a2⟩, a3⟩ := h3
        obtain ⟨⟨b1, b2⟩, b3⟩ := h4
        refine ⟨oa, ob, ha, hb, h2, a1, b1, ⟨a2, a3⟩, b2, fun i o hi e he hbd => ?_, fun i o s j oj hi hs hj hd => ?_, fun i o hi hib hmem => ?_, ?_⟩
        · have := hrow i o hi
          unfold floatRow at this
          simp only [Bool.and_eq_true] at this
          have := Array.all_eq_true_iff_forall_mem.1 this.1.1 e he
          rw [hbd] at this
          simpa using this
        · have := (hrow2 i o j oj s hi hj hd).1
          rcases this with h | h
          · rw [List.contains_iff_mem.2 hs] at h; cases h
          · obtain ⟨n, hn, hh⟩ := Array.any_eq_true.1 h
            simp only [Bool.and_eq_true, beq_iff_eq] at hh
            exact ⟨_, Array.getElem_mem hn, hh.1, hh.2⟩
        · have := hrow i o hi
          unfold floatRow at this
          simp only [Bool.and_eq_true, Bool.or_eq_true, decide_eq_true_eq, Bool.not_eq_true'] at this
          rcases this.1.2 with h | h
          · exact hib h
          · rw [List.contains_iff_mem.2 hmem] at h; cases h
        · obtain ⟨n, hn, hh⟩ := Array.any_eq_true.1 b3
          simp only [Bool.and_eq_true, beq_iff_eq] at hh
          exact ⟨_, Array.getElem_mem hn, hh.1, hh.2⟩
end

theorem none_listed (n i : Nat) : ¬ (Array.replicate n false).getD i false = true := by
  rw [Array.getD_eq_getD_getElem?, Array.getElem?_replicate]
  split <;> simp
/-- THE LAW. ia: the operation that makes the variable; ib: the store into it; d: the slot of its address; Z: what it holds when made, T: its type. -/
theorem region_float {P : Program} {id : Nat} {Q : Exit → Act → World → Prop} {a : Act} {w : World} {l : List Oper} (ia ib : Nat) (d : Tmp) (oa ob : Oper) (Z : Array Value) (T : TypeId) (hm : P.follows .mixedOrders = true)
    (hB : floatB l.toArray ia ib d = true) (ha : l.toArray[ia]? = some oa) (hb : l.toArray[ib]? = some ob)
    (hA : ∀ (a : Act) (w : World), (execOp a.eval oa).run P w = .ok (.value (.pointer (some ⟨w.heap.size, 0, none⟩))) (w.alloc (.cells Z T)))
    (h : wpCalm P l.toArray w ia ib (fun aC => ∃ Z2, (∀ (B : Nat) (w1 : World), w.heap.size ≤ B → w1.heap[B]? = some (.cells Z T) → ∃ w2, (execOp (aC.put (some d) (.pointer (some ⟨B, 0, none⟩))).eval ob).run P w1 = .ok .skip w2 ∧ w2.heap[B]? = some (.cells Z2 T) ∧
        (∀ k, k ≠ B → w2.heap[k]? = w1.heap[k]?) ∧ w2.heap.size = w1.heap.size ∧ w2.os = w1.os ∧ w2.tape = w1.tape ∧ w2.output = w1.output) ∧
      ∀ (B : Nat) (w' : World), w.heap.size ≤ B → w'.heap[B]? = some (.cells Z2 T) → Below w.heap.size w w' → Q .normal (aC.put (some d) (.pointer (some ⟨B, 0, none⟩))) w') 0 l a) :
    (Code.region id l.toArray true).wp P Q a w := by
  obtain ⟨hns, hap, oa', ob', F⟩ := floatB_spec hB
  obtain rfl : oa' = oa := Option.some.inj (F.ha.symm.trans ha)
  obtain rfl : ob' = ob := Option.some.inj (F.hb.symm.trans hb)
  have hA0 : Agree l.toArray (fun _ => undef) a (fun i => i < 0 ∧ i ≠ ia ∧ i ≠ ib) a := ⟨rfl, rfl, fun i o d hi hd hdn => by omega, fun s _ => rfl⟩
  obtain ⟨vals, aC, _, hC, ⟨Z2, hS, hQ⟩, hY⟩ := wpCalm_vals hns hap l 0 a a (fun _ => undef) (fun j => by simp) (by simp) hA0 h
  refine wp_region_any hm ?_
  refine float_any (W := w) (Z := Z) (Z2 := Z2) (T := T) (a0 := a) (aC := aC) F hns hap (fun B i => if i = ia then .pointer (some ⟨B, 0, none⟩) else vals i) (fun B => if_pos rfl) (fun B B' i hi => by simp only [if_neg hi])
    (fun i o h1 h2 ho => ?_) (hC.congr (fun _ _ => Iff.rfl) (fun i hi => by rw [if_neg hi.2.1])) hA hS hQ _ _ a _ 0 (by simp) ?_ ⟨?_, ?_, fun hh => ?_, fun hh => ?_⟩
  · obtain ⟨ai, hai, hy⟩ := hY i o (Nat.zero_le _) h1 h2 ho
    exact ⟨ai, hai.congr (fun _ _ => Iff.rfl) (fun j hj => by rw [if_neg hj.2.1]), by rw [if_neg h1]; exact hy⟩
  · simp
  · refine ⟨rfl, rfl, fun i o d hi hd hdn => ?_, fun s _ => rfl⟩
    exact absurd hdn (none_listed _ _)
  · exact (Below.refl _ _).drew
  · exact absurd hh (none_listed _ _)
  · exact absurd hh (none_listed _ _)

section
variable {P : Program} {ops : Array Oper} {W : World} {ia ib k : Nat} {Q : Act → Prop} {a : Act} {o : Oper} {rest : List Oper}
theorem wpCalm_nil (h : Q a) : wpCalm P ops W ia ib Q k [] a := h
theorem wpCalm_pass (hk : (k = ia ∨ k = ib)) (h : wpCalm P ops W ia ib Q (k + 1) rest a) : wpCalm P ops W ia ib Q k (o :: rest) a := by
  unfold wpCalm; rw [if_pos hk]; exact h
theorem wpCalm_step (hk : ¬ (k = ia ∨ k = ib)) (h : ∀ K : Act → Prop, (∀ a, wpCalm P ops W ia ib Q (k + 1) rest a → K a) → if Region.wanted o (yielded ops a.tmps) then calm P o a W K else K (a.put o.dst undef)) : wpCalm P ops W ia ib Q k (o :: rest) a := by
  unfold wpCalm; rw [if_neg hk]; exact h _ (fun _ h => h)
end
/-- three cells of a value -/
def ValAt (w : World) (b : Nat) (k n : Int) (s : ByteArray) : Prop := w.cell? ⟨b, 0, none⟩ = some (.int .i64 k) ∧ w.cell? ⟨b, 1, none⟩ = some (.int .i64 n) ∧ w.cell? ⟨b, 2, none⟩ = some (.string s)
theorem ValAt.below {w w' : World} {B b : Nat} {k n : Int} {s : ByteArray} (h : ValAt w b k n s) (hb : Below B w w') (hB : b < B) : ValAt w' b k n s :=
  ⟨(hb.cell (p := ⟨b, 0, none⟩) hB).trans h.1, (hb.cell (p := ⟨b, 1, none⟩) hB).trans h.2.1, (hb.cell (p := ⟨b, 2, none⟩) hB).trans h.2.2⟩
theorem ValAt.bound {w : World} {b : Nat} {k n : Int} {s : ByteArray} (h : ValAt w b k n s) : b < w.heap.size := by
  have h1 := h.1
  unfold World.cell? at h1
  by_cases e : b < w.heap.size
  · exact e
  · rw [Array.getElem?_eq_none (by show w.heap.size ≤ b; omega)] at h1
    cases h1
theorem valAt_alloc (w : World) (k n : Int) (s : ByteArray) (t : TypeId) : ValAt (w.alloc (.cells #[.int .i64 k, .int .i64 n, .string s] t)) w.heap.size k n s := by
  refine ⟨?_, ?_, ?_⟩ <;> simp

theorem set_heap (w : World) (B j : Nat) (v : Value) (c : Array Value) (T : TypeId) (h : w.heap[B]? = some (.cells c T)) : (w.setCell ⟨B, j, none⟩ v).heap[B]? = some (.cells (c.setIfInBounds j v) T) := by
  simp [World.setCell, Array.getElem?_modify, h]
theorem store3 (w1 : World) (B : Nat) (c0 c1 c2 z0 z1 z2 : Value) (T : TypeId) (h : w1.heap[B]? = some (.cells #[z0, z1, z2] T)) :
    (((w1.setCell ⟨B, 0, none⟩ c0).setCell ⟨B, 1, none⟩ c1).setCell ⟨B, 2, none⟩ c2).heap[B]? = some (.cells #[c0, c1, c2] T) ∧
    (∀ k, k ≠ B → (((w1.setCell ⟨B, 0, none⟩ c0).setCell ⟨B, 1, none⟩ c1).setCell ⟨B, 2, none⟩ c2).heap[k]? = w1.heap[k]?) ∧
    (((w1.setCell ⟨B, 0, none⟩ c0).setCell ⟨B, 1, none⟩ c1).setCell ⟨B, 2, none⟩ c2).heap.size = w1.heap.size := by
  refine ⟨?_, fun k hk => ?_, ?_⟩
  · rw [set_heap _ _ _ _ _ _ (set_heap _ _ _ _ _ _ (set_heap _ _ _ _ _ _ h))]
    simp
  · rw [Below.heap_setCell _ _ _ _ hk, Below.heap_setCell _ _ _ _ hk, Below.heap_setCell _ _ _ _ hk]
  · simp [World.setCell]

/-- The end of a calm walk where the variable is a value of three fields. -/
theorem float3 {P : Program} {w : World} {aC : Act} {d : Tmp} {ob : Oper} {T : TypeId} {Q : Exit → Act → World → Prop} (k n : Int) (s : ByteArray)
    (hrun : ∀ (B : Nat) (w1 : World), w1.cell? ⟨B, 0, none⟩ = some (.int .i64 0) → w1.cell? ⟨B, 1, none⟩ = some (.int .i64 0) → w1.cell? ⟨B, 2, none⟩ = some (.string ⟨#[]⟩) → (∀ j, w1.frozen? ⟨B, j, none⟩ = false) →
      (execOp (aC.put (some d) (.pointer (some ⟨B, 0, none⟩))).eval ob).run P w1 = .ok .skip (((w1.setCell ⟨B, 0, none⟩ (.int .i64 k)).setCell ⟨B, 1, none⟩ (.int .i64 n)).setCell ⟨B, 2, none⟩ (.string s)))
    (hQ : ∀ (B : Nat) (w' : World), w.heap.size ≤ B → ValAt w' B k n s → (∀ j, w'.frozen? ⟨B, j, none⟩ = false) → B < w'.heap.size → Below w.heap.size w w' → Q .normal (aC.put (some d) (.pointer (some ⟨B, 0, none⟩))) w') :
    ∃ Z2, (∀ (B : Nat) (w1 : World), w.heap.size ≤ B → w1.heap[B]? = some (.cells #[.int .i64 0, .int .i64 0, .string ⟨#[]⟩] T) → ∃ w2, (execOp (aC.put (some d) (.pointer (some ⟨B, 0, none⟩))).eval ob).run P w1 = .ok .skip w2 ∧ w2.heap[B]? = some (.cells Z2 T) ∧
        (∀ k, k ≠ B → w2.heap[k]? = w1.heap[k]?) ∧ w2.heap.size = w1.heap.size ∧ w2.os = w1.os ∧ w2.tape = w1.tape ∧ w2.output = w1.output) ∧
      ∀ (B : Nat) (w' : World), w.heap.size ≤ B → w'.heap[B]? = some (.cells Z2 T) → Below w.heap.size w w' → Q .normal (aC.put (some d) (.pointer (some ⟨B, 0, none⟩))) w' := by
  have hfr : ∀ (w1 : World) (B : Nat) (c : Array Value), w1.heap[B]? = some (.cells c T) → ∀ j, w1.frozen? ⟨B, j, none⟩ = false := fun w1 B c h j => by
    unfold World.frozen?
    simp only [h]
    simp
  refine ⟨#[.int .i64 k, .int .i64 n, .string s], fun B w1 hB h => ?_, fun B w' hB h hbl => hQ B w' hB ⟨?_, ?_, ?_⟩ (hfr _ _ _ h) ?_ hbl⟩
  · refine ⟨_, hrun B w1 ?_ ?_ ?_ (hfr _ _ _ h), (store3 w1 B _ _ _ _ _ _ T h).1, (store3 w1 B _ _ _ _ _ _ T h).2.1, (store3 w1 B _ _ _ _ _ _ T h).2.2, rfl, rfl, rfl⟩ <;> (unfold World.cell?; simp only [h]; simp)
  · unfold World.cell?; simp only [h]; simp
  · unfold World.cell?; simp only [h]; simp
  · unfold World.cell?; simp only [h]; simp
  · by_cases e : B < w'.heap.size
    · exact e
    · rw [Array.getElem?_eq_none (Nat.le_of_not_lt e)] at h; cases h

attribute [go_sem] calm calmUpon
end Go.Proofs.Ytbgndledcnfceaa
