/- A symbolic run of Go code, third part: what the terms say of values and of memory. No condition. -/
import Derived.Test.YtdgjcdhomfhfpaaAbH
import Derived.Below
import Derived.Test.YtdgjcdhomfhfpaaAb0
namespace Go.Proofs.Ytdgjcdhomfhfpaa
open Go.RowKit
set_option linter.unusedSimpArgs false
set_option linter.unusedVariables false

/-- A value that reads as closed data, in memory that is not X. -/
inductive CVR (w : World) (X : Nat → Prop) : CV → Value → Prop where
  | v (x : Value) (h1 : x.oneCell' = true) : CVR w X (.v x) x
  | nil (a : Option Addr) : CVR w X (.vs []) (.slice a 0 0)
  | vs (els : List (List CV)) (b o sz c : Nat) (g : Nat → Nat → Value) (hsz : ∀ el ∈ els, el.length = sz) (hc : els.length ≤ c)
      (hcell : ∀ (i : Nat) (el : List CV), els[i]? = some el → ∀ (f : Nat) (cv : CV), el[f]? = some cv → ¬ X b ∧ w.cell? ⟨b, o + i * sz + f, none⟩ = some (g i f))
      (hval : ∀ (i : Nat) (el : List CV), els[i]? = some el → ∀ (f : Nat) (cv : CV), el[f]? = some cv → CVR w X cv (g i f)) :
      CVR w X (.vs els) (.slice (some ⟨b, o, none⟩) els.length c)
  | sem (Q : World → Value → Prop) (x : Value) (h1 : x.oneCell' = true) (h : ∀ w', w.heap.size ≤ w'.heap.size → (∀ b, ¬ X b → b < w.heap.size → w'.heap[b]? = w.heap[b]?) → Q w' x) : CVR w X (.sem Q) x

theorem CVR.one {w : World} {Y : Nat → Prop} {cv : CV} {r : Value} (h : CVR w Y cv r) : r.oneCell' = true := by
  cases h with
  | v x h1 => exact h1
  | nil => rfl
  | vs => rfl
  | sem _ _ h1 _ => exact h1
theorem cells_of_one {r : Value} (h : r.oneCell' = true) : r.cells = #[r] := by
  cases r <;> first | rfl | simp [Value.oneCell'] at h
theorem cell_of_heap {w w' : World} {b o : Nat} (h : w'.heap[b]? = w.heap[b]?) : w'.cell? ⟨b, o, none⟩ = w.cell? ⟨b, o, none⟩ := by
  unfold World.cell?
  rw [h]

/-- What may happen to memory beside X. -/
structure Stays (X X' : Nat → Prop) (w w' : World) : Prop where
  heap : ∀ b, ¬ X b → b < w.heap.size → w'.heap[b]? = w.heap[b]?
  ex : ∀ b, X' b → X b ∨ w.heap.size ≤ b
  size : w.heap.size ≤ w'.heap.size

theorem CVR.step {w w' : World} {X X' : Nat → Prop} (h : Stays X X' w w') {cv : CV} {r : Value} (hr : CVR w X cv r) : CVR w' X' cv r := by
  induction hr with
  | v x h1 => exact .v x h1
  | nil a => exact .nil a
  | vs els b o sz c g hsz hc hcell hval ih =>
    refine .vs els b o sz c g hsz hc (fun i el hi f cv hf => ?_) (fun i el hi f cv hf => ih i el hi f cv hf)
    obtain ⟨hx, hcl⟩ := hcell i el hi f cv hf
    have hb : b < w.heap.size := (World.block_lt_of_cell? _ _ hcl)
    refine ⟨fun hx' => ?_, ?_⟩
    · rcases h.ex b hx' with h1 | h1
      · exact hx h1
      · omega
    · rw [cell_of_heap (h.heap b hx hb)]
      exact hcl
  | sem Q x h1 hq =>
    refine .sem Q x h1 (fun w2 hs ha => hq w2 (Nat.le_trans h.size hs) (fun b hb hlt => ?_))
    have h3 : ¬ X' b := fun hx => by
      rcases h.ex b hx with h2 | h2
      · exact hb h2
      · omega
    rw [ha b h3 (Nat.lt_of_lt_of_le hlt h.size), h.heap b hb hlt]

/-- Where an object lies: its version, its block and (of a row) how many elements it has room for, how many cells an element has. -/
structure Pl where
  ver : Nat
  at_ : Option (Nat × Nat)
  sz : Nat
def Own (σ : List Pl) (b : Nat) : Prop := ∃ (i : Nat) (p : Pl) (c : Nat), σ[i]? = some p ∧ p.at_ = some (b, c)
def Exc (X : Nat → Prop) (σ : List Pl) (b : Nat) : Prop := X b ∨ Own σ b

def ElR (w : World) (X : Nat → Prop) (el : List CV) (f : Nat) (r : Value) : Prop :=
  ∃ (b o : Nat) (g : Nat → Value), r = .pointer (some ⟨b, o + f, none⟩) ∧ ∀ (f' : Nat) (cv : CV), el[f']? = some cv → ¬ X b ∧ w.cell? ⟨b, o + f', none⟩ = some (g f') ∧ CVR w X cv (g f')
def RsR (pl : Pl) (o n : Int) (a : Option Addr) (len rc : Nat) : Prop :=
  (pl.at_ = none ∧ a = none ∧ len = 0 ∧ rc = 0 ∧ n = 0 ∧ o = 0) ∨
  ∃ b c off, pl.at_ = some (b, c) ∧ a = some ⟨b, off, none⟩ ∧ 0 ≤ n ∧ 0 ≤ o ∧ len = n.toNat ∧ len ≤ rc ∧ (o = 0 → off = 0 ∧ rc ≤ c) ∧ (len ≠ 0 → off = o.toNat * pl.sz)

/-- a cell, as it is -/
def cvE (ν : Nu) : E → CV
  | .cell c i f => cellAt (denC ν c) (denI ν i) f
  | e => cellAt (denC ν e) 0 0
mutual
def LR (ν : Nu) (w : World) (X : Nat → Prop) (σ : List Pl) : LV → Value → Prop
  | .b e, r => r = .bool (denB ν e)
  | .i k e, r => r = .int k (denI ν e)
  | .s e, r => r = .string (denS ν e)
  | .k v, r => r = v
  | .vs c, r => CVR w (Exc X σ) (.vs (denC ν c)) r
  | .o e, r => CVR w (Exc X σ) (cvE ν e) r
  | .vp c i f, r => ElR w (Exc X σ) ((denC ν c).getD (denI ν i).toNat []) f r
  | .agg cs, r => ∃ a : Array Value, r = .agg a ∧ LRs ν w X σ cs a.toList
  | .tup cs, r => ∃ a : Array Value, r = .tuple a ∧ LRs ν w X σ cs a.toList
  | .ptr id ver off, r => ∃ (p : Option Addr) (pl : Pl), r = .pointer p ∧ σ[id]? = some pl ∧ ver ≤ pl.ver ∧ (ver = pl.ver → ∃ b c, pl.at_ = some (b, c) ∧ p = some ⟨b, off, none⟩)
  | .rp id ver i f, r => ∃ (p : Option Addr) (pl : Pl), r = .pointer p ∧ σ[id]? = some pl ∧ ver ≤ pl.ver ∧ (ver = pl.ver → ∃ b c, pl.at_ = some (b, c) ∧ p = some ⟨b, (denI ν i).toNat * pl.sz + f, none⟩)
  | .rs id ver o n, r => ∃ (a : Option Addr) (len rc : Nat) (pl : Pl), r = .slice a len rc ∧ σ[id]? = some pl ∧ ver ≤ pl.ver ∧ (ver = pl.ver → RsR pl (denI ν o) (denI ν n) a len rc)
  | .fn f cs, r => ∃ a : Array Value, r = .func (.func f) #[] a ∧ LRs ν w X σ cs a.toList
  | .mp id ver, r => ∃ (p : Option Nat) (pl : Pl), r = .map p ∧ σ[id]? = some pl ∧ ver ≤ pl.ver ∧ (ver = pl.ver → ∃ b c, pl.at_ = some (b, c) ∧ p = some b)
  | .ifc t v, r => ∃ x, r = .iface t x ∧ LR ν w X σ v x
  | .nl c neg, r => ∃ b, r = .bool b ∧ (b = !neg → denC ν c = [])
  | .junk, _ => True
  | .g c v, r => (denB ν c = true → LR ν w X σ v r) ∧ (denB ν c = false → r = undef)
def LRs (ν : Nu) (w : World) (X : Nat → Prop) (σ : List Pl) : List LV → List Value → Prop
  | [], [] => True
  | c :: cs, r :: rs => LR ν w X σ c r ∧ LRs ν w X σ cs rs
  | _, _ => False
end

/-- Objects may get a newer version and a new place; there may be more of them. -/
structure Later' (σ σ' : List Pl) : Prop where
  old : ∀ (i : Nat) (p : Pl), σ[i]? = some p → ∃ p', σ'[i]? = some p' ∧ (p' = p ∨ p.ver < p'.ver)

theorem Later'.refl (σ : List Pl) : Later' σ σ := ⟨fun _ p h => ⟨p, h, .inl rfl⟩⟩

mutual
theorem LR.step {ν : Nu} {w w' : World} {X : Nat → Prop} {σ σ' : List Pl} (h : Stays (Exc X σ) (Exc X σ') w w') (hσ : Later' σ σ') : ∀ (v : LV) (r : Value), LR ν w X σ v r → LR ν w' X σ' v r
  | .b e, r, hr => by simpa only [LR] using hr
  | .i k e, r, hr => by simpa only [LR] using hr
  | .s e, r, hr => by simpa only [LR] using hr
  | .k v, r, hr => by simpa only [LR] using hr
  | .vs c, r, hr => by
    simp only [LR] at hr ⊢
    exact hr.step h
  | .o e, r, hr => by
    simp only [LR] at hr ⊢
    exact hr.step h
  | .vp c i f, r, hr => by
    simp only [LR] at hr ⊢
    obtain ⟨b, o, g, hr, hg⟩ := hr
    refine ⟨b, o, g, hr, fun f' cv hf => ?_⟩
    obtain ⟨hx, hcl, hv⟩ := hg f' cv hf
    have hb : b < w.heap.size := (World.block_lt_of_cell? _ _ hcl)
    refine ⟨fun hx' => ?_, ?_, hv.step h⟩
    · rcases h.ex b hx' with h1 | h1
      · exact hx h1
      · omega
    · rw [cell_of_heap (h.heap b hx hb)]
      exact hcl
  | .agg cs, r, hr => by
    simp only [LR] at hr ⊢
    obtain ⟨a, hr, ha⟩ := hr
    exact ⟨a, hr, LRs.step h hσ cs a.toList ha⟩
  | .tup cs, r, hr => by
    simp only [LR] at hr ⊢
    obtain ⟨a, hr, ha⟩ := hr
    exact ⟨a, hr, LRs.step h hσ cs a.toList ha⟩
  | .fn f cs, r, hr => by
    simp only [LR] at hr ⊢
    obtain ⟨a, hr, ha⟩ := hr
    exact ⟨a, hr, LRs.step h hσ cs a.toList ha⟩
  | .nl c n, r, hr => by simpa only [LR] using hr
  | .mp id ver, r, hr => by
    simp only [LR] at hr ⊢
    obtain ⟨p, pl, hr, hp, hv, hl⟩ := hr
    obtain ⟨pl', hp', hpl⟩ := hσ.old id pl hp
    refine ⟨p, pl', hr, hp', ?_, fun he => ?_⟩
    · rcases hpl with rfl | h1 <;> omega
    · rcases hpl with rfl | h1
      · exact hl he
      · omega
  | .ptr id ver off, r, hr => by
    simp only [LR] at hr ⊢
    obtain ⟨p, pl, hr, hp, hv, hl⟩ := hr
    obtain ⟨pl', hp', hpl⟩ := hσ.old id pl hp
    refine ⟨p, pl', hr, hp', ?_, fun he => ?_⟩
    · rcases hpl with rfl | h1 <;> omega
    · rcases hpl with rfl | h1
      · exact hl he
      · omega
  | .rp id ver i f, r, hr => by
    simp only [LR] at hr ⊢
    obtain ⟨p, pl, hr, hp, hv, hl⟩ := hr
    obtain ⟨pl', hp', hpl⟩ := hσ.old id pl hp
    refine ⟨p, pl', hr, hp', ?_, fun he => ?_⟩
    · rcases hpl with rfl | h1 <;> omega
    · rcases hpl with rfl | h1
      · exact hl he
      · omega
  | .rs id ver o n, r, hr => by
    simp only [LR] at hr ⊢
    obtain ⟨a, len, rc, pl, hr, hp, hv, hl⟩ := hr
    obtain ⟨pl', hp', hpl⟩ := hσ.old id pl hp
    refine ⟨a, len, rc, pl', hr, hp', ?_, fun he => ?_⟩
    · rcases hpl with rfl | h1 <;> omega
    · rcases hpl with rfl | h1
      · exact hl he
      · omega
  | .ifc t v, r, hr => by
    simp only [LR] at hr ⊢
    obtain ⟨x, hr, hx⟩ := hr
    exact ⟨x, hr, LR.step h hσ v x hx⟩
  | .junk, _, _ => by simp only [LR]
  | .g c v, r, hr => by
    simp only [LR] at hr ⊢
    exact ⟨fun hc => LR.step h hσ v r (hr.1 hc), hr.2⟩
theorem LRs.step {ν : Nu} {w w' : World} {X : Nat → Prop} {σ σ' : List Pl} (h : Stays (Exc X σ) (Exc X σ') w w') (hσ : Later' σ σ') : ∀ (cs : List LV) (rs : List Value), LRs ν w X σ cs rs → LRs ν w' X σ' cs rs
  | [], [], _ => by simp only [LRs]
  | c :: cs, r :: rs, hr => by
    simp only [LRs] at hr ⊢
    exact ⟨LR.step h hσ c r hr.1, LRs.step h hσ cs rs hr.2⟩
  | [], _ :: _, hr => by simp only [LRs] at hr
  | _ :: _, [], hr => by simp only [LRs] at hr
end

def Free (fr : Nat × Nat) (n : Nat) : Prop := ∀ o, o < n → ¬ (fr.1 ≤ o ∧ o < fr.2)
/-- no cell of a row may not be written; and but for rows of one cell an element, nobody has marked the row as text -/
def FreeR (fr : Nat × Nat) (n sz : Nat) : Prop := Free fr n ∧ (sz ≠ 1 → ¬ (fr.1 ≤ n ∧ n < fr.2) ∧ n ≤ 9223372036854775807 * sz)
theorem FreeR.none {n sz cap : Nat} (hn : n = cap * sz) (h : cap ≤ 9223372036854775807) : FreeR (0, 0) n sz := ⟨fun o _ h => by omega, fun _ => ⟨fun h => by omega, by rw [hn]; exact Nat.mul_le_mul_right sz h⟩⟩

/-- the entries of a map, whose keys are texts -/
def MapR (w : World) (X : Nat → Prop) (vk : Nat) : List MapEntry → List (List CV) → Prop
  | [], [] => True
  | e :: es, el :: c => (∃ (s : ByteArray) (cv : CV), el = [.v (.string s), cv] ∧ e.key = .string s ∧ kindC cv = vk ∧ CVR w X cv e.val) ∧ MapR w X vk es c
  | _, _ => False
theorem MapR.step {w w' : World} {X X' : Nat → Prop} (h : Stays X X' w w') {vk : Nat} : ∀ (es : List MapEntry) (c : List (List CV)), MapR w X vk es c → MapR w' X' vk es c
  | [], [], _ => trivial
  | e :: es, el :: c, hm => by
    simp only [MapR] at hm ⊢
    obtain ⟨⟨s, cv, h1, h2, h3, h4⟩, h5⟩ := hm
    exact ⟨⟨s, cv, h1, h2, h3, h4.step h⟩, MapR.step h es c h5⟩
  | [], _ :: _, hm => by simp [MapR] at hm
  | _ :: _, [], hm => by simp [MapR] at hm
/-- An object in memory. -/
def OR (ν : Nu) (w : World) (X : Nat → Prop) (σ : List Pl) (pl : Pl) : LO → Prop
  | .box cs elem => ∃ (b c : Nat) (a : Array Value) (fr : Nat × Nat), pl.at_ = some (b, c) ∧ w.heap[b]? = some (.cells a elem fr) ∧ Free fr a.size ∧ LRs ν w X σ cs a.toList
  | .row c elem sz => pl.sz = sz ∧ 0 < sz ∧ (∀ el ∈ denC ν c, el.length = sz) ∧ ((pl.at_ = none ∧ denC ν c = []) ∨
      ∃ (b cap : Nat) (a : Array Value) (fr : Nat × Nat), pl.at_ = some (b, cap) ∧ w.heap[b]? = some (.cells a elem fr) ∧ FreeR fr a.size sz ∧ cap * sz ≤ a.size ∧ (denC ν c).length ≤ cap ∧
        ∀ (i : Nat) (el : List CV), (denC ν c)[i]? = some el → ∀ (f : Nat) (cv : CV), el[f]? = some cv → ∃ r, a[i * sz + f]? = some r ∧ CVR w (Exc X σ) cv r)
  | .iter s p => ∃ (b c : Nat), pl.at_ = some (b, c) ∧ 0 ≤ denI ν p ∧ w.heap[b]? = some (.stringIter (denS ν s) (denI ν p).toNat)
  | .mp c vk => ∃ (b c0 : Nat) (es : Array MapEntry) (clock : Nat), pl.at_ = some (b, c0) ∧ w.heap[b]? = some (.map es clock) ∧ MapR w (Exc X σ) vk es.toList (denC ν c)
  | .hole => pl = ⟨0, none, 0⟩

/-- the block of an object is as it was -/
def Same (pl : Pl) (w w' : World) : Prop := ∀ b c, pl.at_ = some (b, c) → w'.heap[b]? = w.heap[b]?

theorem OR.step {ν : Nu} {w w' : World} {X : Nat → Prop} {σ σ' : List Pl} (h : Stays (Exc X σ) (Exc X σ') w w') (hσ : Later' σ σ') {pl : Pl} (hs : Same pl w w') (o : LO) (ho : OR ν w X σ pl o) : OR ν w' X σ' pl o := by
  cases o with
  | box cs elem =>
    obtain ⟨b, c, a, fr, h1, h2, h3, h4⟩ := ho
    exact ⟨b, c, a, fr, h1, by rw [hs b c h1]; exact h2, h3, LRs.step h hσ _ _ h4⟩
  | row c elem sz =>
    obtain ⟨h1, h2, h3, h4⟩ := ho
    refine ⟨h1, h2, h3, ?_⟩
    rcases h4 with h4 | ⟨b, cap, a, fr, g1, g2, g3, g4, g5, g6⟩
    · exact .inl h4
    · refine .inr ⟨b, cap, a, fr, g1, by rw [hs b cap g1]; exact g2, g3, g4, g5, fun i el hi f cv hf => ?_⟩
      obtain ⟨r, hr, hv⟩ := g6 i el hi f cv hf
      exact ⟨r, hr, hv.step h⟩
  | iter s p =>
    obtain ⟨b, c, h1, h2, h3⟩ := ho
    exact ⟨b, c, h1, h2, by rw [hs b c h1]; exact h3⟩
  | mp c vk =>
    obtain ⟨b, c0, es, clock, h1, h2, h3⟩ := ho
    exact ⟨b, c0, es, clock, h1, by rw [hs b c0 h1]; exact h2, h3.step h⟩
  | hole => exact ho

/-- What a state says. -/
structure Base where
  w : World
  /-- the blocks that the callee may write -/
  y : Nat → Prop
  /-- the slots of those who called -/
  gs : List Value
def Base.mine (B : Base) (b : Nat) : Prop := B.w.heap.size ≤ b ∨ B.y b
/-- What stays: all that was there, but for what may be written. -/
structure Kept (B : Base) (w : World) : Prop where
  os : w.os = B.w.os
  tape : w.tape = B.w.tape
  output : w.output = B.w.output
  size : B.w.heap.size ≤ w.heap.size
  block : ∀ k, k < B.w.heap.size → ¬ B.y k → w.heap[k]? = B.w.heap[k]?
  gy : ∀ g ∈ gloList, ¬ B.y g
  ysz : ∀ (b : Nat) (a : Array Value) (e : TypeId) (fr : Nat × Nat), B.w.heap[b]? = some (.cells a e fr) → ∃ (a' : Array Value) (e' : TypeId) (fr' : Nat × Nat), w.heap[b]? = some (.cells a' e' fr') ∧ a'.size = a.size
structure Rel (w0 : Base) (X : Nat → Prop) (ν : Nu) (S : St) (σ : List Pl) (a : Act) (w : World) : Prop where
  defers : a.defers = []
  F : LRs ν w X σ S.F a.tmps.toList
  len : σ.length = S.L.length
  L : ∀ (i : Nat) (ob : Ob) (pl : Pl), getO S.L i = some ob → σ[i]? = some pl → pl.ver = ob.ver ∧ OR ν w X σ pl ob.o
  inj : ∀ (i j : Nat) (p q : Pl) (b c d : Nat), σ[i]? = some p → σ[j]? = some q → p.at_ = some (b, c) → q.at_ = some (b, d) → i = j
  own : ∀ b, Own σ b → w0.mine b ∧ b < w.heap.size
  old : Kept w0 w
  ex : ∀ b, X b → b < w0.w.heap.size ∧ ¬ w0.y b
  glo : Glo w0.w
  n : ν.length = S.n
  G : LRs ν w X σ S.G w0.gs
end Go.Proofs.Ytdgjcdhomfhfpaa
