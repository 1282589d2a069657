/- Short forms for what a tree owes: each stands for a longer text and is replaced by it where it is read. No condition. -/
import Derived.Test.YteljlbgjpnfdjaaAbTab
import Derived.Test.YteljlbgjpnfdjaaAb19
namespace Go.Proofs.Yteljlbgjpnfdjaa.Q
open Go.RowKit
instance : Coe Int CV := ⟨fun z => .v (.int .i64 z)⟩
instance : Coe Bool CV := ⟨fun z => .v (.bool z)⟩
instance : Coe ByteArray CV := ⟨fun z => .v (.string z)⟩
instance : Coe (List (List CV)) CV := ⟨fun z => .vs z⟩
instance : Coe Int DV := ⟨fun z => .c (.v (.int .i64 z))⟩
instance : Coe Bool DV := ⟨fun z => .c (.v (.bool z))⟩
instance : Coe ByteArray DV := ⟨fun z => .c (.v (.string z))⟩
instance : Coe (List (List CV)) DV := ⟨fun z => .c (.vs z)⟩
structure Tix (a : Int) (n : Int) where
  m ::
def ix (a : Int) (n : Int) : Tix a n := .m
instance (a : Int) (n : Int) (u : Tix a n) : CoeDep (Tix a n) u Prop := ⟨0 ≤ a ∧ a < n⟩
instance (a : Int) (n : Int) : CoeSort (Tix a n) Prop := ⟨fun _ => 0 ≤ a ∧ a < n⟩
structure Tcu (a : Int) (b : Int) (n : Int) where
  m ::
def cu (a : Int) (b : Int) (n : Int) : Tcu a b n := .m
instance (a : Int) (b : Int) (n : Int) (u : Tcu a b n) : CoeDep (Tcu a b n) u Prop := ⟨0 ≤ a ∧ a ≤ b ∧ b ≤ n⟩
instance (a : Int) (b : Int) (n : Int) : CoeSort (Tcu a b n) Prop := ⟨fun _ => 0 ≤ a ∧ a ≤ b ∧ b ≤ n⟩
structure Tsz (c : List (List CV)) (n : Nat) where
  m ::
def sz (c : List (List CV)) (n : Nat) : Tsz c n := .m
instance (c : List (List CV)) (n : Nat) (u : Tsz c n) : CoeDep (Tsz c n) u Prop := ⟨∀ el ∈ c, el.length = n⟩
instance (c : List (List CV)) (n : Nat) : CoeSort (Tsz c n) Prop := ⟨fun _ => ∀ el ∈ c, el.length = n⟩
structure Tfi (m : Int) (b : Nat) where
  m ::
def fi (m : Int) (b : Nat) : Tfi m b := .m
instance (m : Int) (b : Nat) (u : Tfi m b) : CoeDep (Tfi m b) u Prop := ⟨0 ≤ m ∧ m * b ≤ 140737488355328 ∧ m ≤ 9223372036854775807⟩
instance (m : Int) (b : Nat) : CoeSort (Tfi m b) Prop := ⟨fun _ => 0 ≤ m ∧ m * b ≤ 140737488355328 ∧ m ≤ 9223372036854775807⟩
structure Tss (a : ByteArray) (b : ByteArray) where
  m ::
def ss (a : ByteArray) (b : ByteArray) : Tss a b := .m
instance (a : ByteArray) (b : ByteArray) (u : Tss a b) : CoeDep (Tss a b) u Prop := ⟨((a.size + b.size : Nat) : Int) ≤ 9223372036854775807⟩
instance (a : ByteArray) (b : ByteArray) : CoeSort (Tss a b) Prop := ⟨fun _ => ((a.size + b.size : Nat) : Int) ≤ 9223372036854775807⟩
structure Tbc (c : List (List CV)) where
  m ::
def bc (c : List (List CV)) : Tbc c := .m
instance (c : List (List CV)) (u : Tbc c) : CoeDep (Tbc c) u Prop := ⟨∀ el ∈ c, ∃ z : Int, el = [.v (.int .u8 z)]⟩
instance (c : List (List CV)) : CoeSort (Tbc c) Prop := ⟨fun _ => ∀ el ∈ c, ∃ z : Int, el = [.v (.int .u8 z)]⟩
structure Tkd (c : List (List CV)) (i : Int) (f : Nat) (ks : List Nat) (n : Nat) where
  m ::
instance (c : List (List CV)) (i : Int) (f : Nat) (ks : List Nat) (n : Nat) (u : Tkd c i f ks n) : CoeDep (Tkd c i f ks n) u Prop := ⟨ks = (((c.getD i.toNat []).drop f).take n).map kindC⟩
instance (c : List (List CV)) (i : Int) (f : Nat) (ks : List Nat) (n : Nat) : CoeSort (Tkd c i f ks n) Prop := ⟨fun _ => ks = (((c.getD i.toNat []).drop f).take n).map kindC⟩
structure Tkn (c : List (List CV)) (i : Int) (f : Nat) (k : Nat) where
  m ::
def kn (c : List (List CV)) (i : Int) (f : Nat) (k : Nat) : Tkn c i f k := .m
instance (c : List (List CV)) (i : Int) (f : Nat) (k : Nat) (u : Tkn c i f k) : CoeDep (Tkn c i f k) u Prop := ⟨[k] = (((c.getD i.toNat []).drop f).take 1).map kindC⟩
instance (c : List (List CV)) (i : Int) (f : Nat) (k : Nat) : CoeSort (Tkn c i f k) Prop := ⟨fun _ => [k] = (((c.getD i.toNat []).drop f).take 1).map kindC⟩
structure TkX (c : List (List CV)) (i : Int) where
  m ::
instance (c : List (List CV)) (i : Int) (u : TkX c i) : CoeDep (TkX c i) u Prop := ⟨[4, 10, 4, 4, 10, 10, 10, 4, 9, 9, 11] = (((c.getD i.toNat []).drop 0).take 11).map kindC⟩
instance (c : List (List CV)) (i : Int) : CoeSort (TkX c i) Prop := ⟨fun _ => [4, 10, 4, 4, 10, 10, 10, 4, 9, 9, 11] = (((c.getD i.toNat []).drop 0).take 11).map kindC⟩
structure TkV (c : List (List CV)) (i : Int) where
  m ::
def kV (c : List (List CV)) (i : Int) : TkV c i := .m
instance (c : List (List CV)) (i : Int) (u : TkV c i) : CoeDep (TkV c i) u Prop := ⟨[4, 4, 10] = (((c.getD i.toNat []).drop 0).take 3).map kindC⟩
instance (c : List (List CV)) (i : Int) : CoeSort (TkV c i) Prop := ⟨fun _ => [4, 4, 10] = (((c.getD i.toNat []).drop 0).take 3).map kindC⟩
structure Teq (a : List (List CV)) (b : List (List CV)) where
  m ::
def eq (a : List (List CV)) (b : List (List CV)) : Teq a b := .m
instance (a : List (List CV)) (b : List (List CV)) (u : Teq a b) : CoeDep (Teq a b) u Prop := ⟨a = b⟩
instance (a : List (List CV)) (b : List (List CV)) : CoeSort (Teq a b) Prop := ⟨fun _ => a = b⟩
structure Tbr (p : Prop) (a : Prop) (b : Prop) where
  m ::
def br (p : Prop) (a : Prop) (b : Prop) : Tbr p a b := .m
instance (p : Prop) (a : Prop) (b : Prop) (u : Tbr p a b) : CoeDep (Tbr p a b) u Prop := ⟨(p → a) ∧ (¬ p → b)⟩
instance (p : Prop) (a : Prop) (b : Prop) : CoeSort (Tbr p a b) Prop := ⟨fun _ => (p → a) ∧ (¬ p → b)⟩
structure Trt (a : DV) (b : DV) where
  m ::
def rt (a : DV) (b : DV) : Trt a b := .m
instance (a : DV) (b : DV) (u : Trt a b) : CoeDep (Trt a b) u Prop := ⟨a = b⟩
instance (a : DV) (b : DV) : CoeSort (Trt a b) Prop := ⟨fun _ => a = b⟩
structure Tag (k : Nat) (I : Nat → Prop) where
  m ::
def ag (k : Nat) (I : Nat → Prop) : Tag k I := .m
instance (k : Nat) (I : Nat → Prop) (u : Tag k I) : CoeDep (Tag k I) u Prop := ⟨∃ k', k' < k ∧ I k'⟩
instance (k : Nat) (I : Nat → Prop) : CoeSort (Tag k I) Prop := ⟨fun _ => ∃ k', k' < k ∧ I k'⟩
structure Tca (f : FuncId) (l : List DV) (r : DV) where
  m ::
def ca (f : FuncId) (l : List DV) (r : DV) : Tca f l r := .m
instance (f : FuncId) (l : List DV) (r : DV) (u : Tca f l r) : CoeDep (Tca f l r) u Prop := ⟨FnC Try.prog f l r⟩
instance (f : FuncId) (l : List DV) (r : DV) : CoeSort (Tca f l r) Prop := ⟨fun _ => FnC Try.prog f l r⟩
structure TX (c : List (List CV)) (i : Int) where
  m ::
def X (c : List (List CV)) (i : Int) : TX c i := .m
instance (c : List (List CV)) (i : Int) (u : TX c i) : CoeDep (TX c i) u (List CV) := ⟨[.v (.int .i64 (cellAt c i 0).int), .v (.string (cellAt c i 1).str), .v (.int .i64 (cellAt c i 2).int), .v (.int .i64 (cellAt c i 3).int), .v (.string (cellAt c i 4).str), .v (.string (cellAt c i 5).str), .v (.string (cellAt c i 6).str), .v (.int .i64 (cellAt c i 7).int), .v (.bool (cellAt c i 8).bool), .v (.bool (cellAt c i 9).bool), .vs (cellAt c i 10).els]⟩
structure TV (c : List (List CV)) (i : Int) where
  m ::
def V (c : List (List CV)) (i : Int) : TV c i := .m
instance (c : List (List CV)) (i : Int) (u : TV c i) : CoeDep (TV c i) u (List CV) := ⟨[.v (.int .i64 (cellAt c i 0).int), .v (.int .i64 (cellAt c i 1).int), .v (.string (cellAt c i 2).str)]⟩
structure TA (c : List (List CV)) (i : Int) where
  m ::
def A (c : List (List CV)) (i : Int) : TA c i := .m
instance (c : List (List CV)) (i : Int) (u : TA c i) : CoeDep (TA c i) u DV := ⟨.agg [.v (.int .i64 (cellAt c i 0).int), .v (.string (cellAt c i 1).str), .v (.int .i64 (cellAt c i 2).int), .v (.int .i64 (cellAt c i 3).int), .v (.string (cellAt c i 4).str), .v (.string (cellAt c i 5).str), .v (.string (cellAt c i 6).str), .v (.int .i64 (cellAt c i 7).int), .v (.bool (cellAt c i 8).bool), .v (.bool (cellAt c i 9).bool), .vs (cellAt c i 10).els]⟩
structure TB (c : List (List CV)) (i : Int) where
  m ::
def B (c : List (List CV)) (i : Int) : TB c i := .m
instance (c : List (List CV)) (i : Int) (u : TB c i) : CoeDep (TB c i) u DV := ⟨.agg [.v (.int .i64 (cellAt c i 0).int), .v (.int .i64 (cellAt c i 1).int), .v (.string (cellAt c i 2).str)]⟩
structure Tci (c : List (List CV)) (i : Int) (f : Nat) where
  m ::
def ci (c : List (List CV)) (i : Int) (f : Nat) : Tci c i f := .m
instance (c : List (List CV)) (i : Int) (f : Nat) (u : Tci c i f) : CoeDep (Tci c i f) u CV := ⟨.v (.int .i64 (cellAt c i f).int)⟩
instance (c : List (List CV)) (i : Int) (f : Nat) (u : Tci c i f) : CoeDep (Tci c i f) u DV := ⟨.c (.v (.int .i64 (cellAt c i f).int))⟩
structure Tcs (c : List (List CV)) (i : Int) (f : Nat) where
  m ::
def cs (c : List (List CV)) (i : Int) (f : Nat) : Tcs c i f := .m
instance (c : List (List CV)) (i : Int) (f : Nat) (u : Tcs c i f) : CoeDep (Tcs c i f) u CV := ⟨.v (.string (cellAt c i f).str)⟩
instance (c : List (List CV)) (i : Int) (f : Nat) (u : Tcs c i f) : CoeDep (Tcs c i f) u DV := ⟨.c (.v (.string (cellAt c i f).str))⟩
structure Tcb (c : List (List CV)) (i : Int) (f : Nat) where
  m ::
def cb (c : List (List CV)) (i : Int) (f : Nat) : Tcb c i f := .m
instance (c : List (List CV)) (i : Int) (f : Nat) (u : Tcb c i f) : CoeDep (Tcb c i f) u CV := ⟨.v (.bool (cellAt c i f).bool)⟩
instance (c : List (List CV)) (i : Int) (f : Nat) (u : Tcb c i f) : CoeDep (Tcb c i f) u DV := ⟨.c (.v (.bool (cellAt c i f).bool))⟩
structure Tcl (c : List (List CV)) (i : Int) (f : Nat) where
  m ::
def cl (c : List (List CV)) (i : Int) (f : Nat) : Tcl c i f := .m
instance (c : List (List CV)) (i : Int) (f : Nat) (u : Tcl c i f) : CoeDep (Tcl c i f) u CV := ⟨.vs (cellAt c i f).els⟩
instance (c : List (List CV)) (i : Int) (f : Nat) (u : Tcl c i f) : CoeDep (Tcl c i f) u DV := ⟨.c (.vs (cellAt c i f).els)⟩
structure Tlit (z : Int) where
  m ::
def lit (z : Int) : Tlit z := .m
instance (z : Int) (u : Tlit z) : CoeDep (Tlit z) u CV := ⟨.v (.int .i64 z)⟩
instance (z : Int) (u : Tlit z) : CoeDep (Tlit z) u DV := ⟨.c (.v (.int .i64 z))⟩
structure Tb0 (z : Unit) where
  m ::
def b0 (z : Unit) : Tb0 z := .m
instance (z : Unit) (u : Tb0 z) : CoeDep (Tb0 z) u CV := ⟨.v (.string ⟨#[]⟩)⟩
instance (z : Unit) (u : Tb0 z) : CoeDep (Tb0 z) u DV := ⟨.c (.v (.string ⟨#[]⟩))⟩
end Go.Proofs.Yteljlbgjpnfdjaa.Q
