/- A symbolic run of Go code over known data: what is known of values and memory is a finite term without free variables, so the kernel reckons it. No condition. -/
import Derived.WalkKit
import Derived.ProofKit
import Derived.WalkSpells
import Derived.WalkLawsBesides
import Derived.Lib.Hide
namespace Go.Proofs.Ytdgjcdhomfhfpaa
set_option linter.unusedSimpArgs false
set_option linter.unusedVariables false

/-- Terms for numbers, truths, texts and contents of slices. -/
inductive E where
  | var (n : Nat)
  | int (z : Int) | bool (b : Bool) | str (l : List UInt8)
  | add (a b : E) | sub (a b : E) | mul (a b : E) | quo (a b : E) | rem (a b : E) | wr (k : IntKind) (a : E)
  | lt (a b : E) | le (a b : E) | eq (a b : E) | eqb (a b : E) | eqs (a b : E) | lts (a b : E)
  | not (a : E) | and (a b : E) | ite (c a b : E)
  | len (s : E) | byte (s i : E) | cat (s t : E) | cut (s i j : E)
  | clen (c : E) | cell (c i : E) (f : Nat) | drop (c n : E) | take (c n : E)
  | sOf (c : E) | rune (s p : E) | runeW (s p : E)
  | mpos (c k : E)
  | shr (a : E) (n : Nat) | shl (k : IntKind) (a : E) (n : Nat) | band (k : IntKind) (a b : E) | bor (k : IntKind) (a b : E)
  | shrv (k : IntKind) (a b : E) | shlv (k : IntKind) (a b : E)
  deriving Inhabited, DecidableEq

/-- Closed data: a value that is what it is, or a slice that reads as a list of elements, each a list of cells; or whatever a predicate holds of. -/
inductive CV where
  | v (x : Value)
  | vs (els : List (List CV))
  | sem (Q : World → Value → Prop)
  deriving Inhabited

def CV.int : CV → Int
  | .v (.int _ z) => z
  | _ => 0
def CV.bool : CV → Bool
  | .v (.bool b) => b
  | _ => false
def CV.str : CV → ByteArray
  | .v (.string s) => s
  | _ => ⟨#[]⟩
def CV.els : CV → List (List CV)
  | .vs l => l
  | _ => []

/-- What a variable stands for. -/
inductive D where
  | i (z : Int)
  | b (x : Bool)
  | s (x : ByteArray)
  | l (c : List (List CV))
  deriving Inhabited
abbrev Nu := List D
def Nu.at (ν : Nu) (n : Nat) : D :=
  match ν, n with
  | [], _ => .b false
  | d :: _, 0 => d
  | _ :: r, n + 1 => Nu.at r n
def D.int : D → Int
  | .i z => z
  | _ => 0
def D.bool : D → Bool
  | .b x => x
  | _ => false
def D.str : D → ByteArray
  | .s x => x
  | _ => ⟨#[]⟩
def D.els : D → List (List CV)
  | .l c => c
  | _ => []

def cellAt (c : List (List CV)) (i : Int) (f : Nat) : CV := (c.getD i.toNat []).getD f default

/-- where a map has a key: among its entries -/
def mposL (c : List (List CV)) (k : ByteArray) : Nat := c.findIdx fun el => k == (el.getD 0 default).str
mutual
def denI (ν : Nu) : E → Int
  | .var n => (Nu.at ν n).int
  | .int z => z
  | .add a b => denI ν a + denI ν b
  | .sub a b => denI ν a - denI ν b
  | .mul a b => denI ν a * denI ν b
  | .quo a b => (denI ν a).tdiv (denI ν b)
  | .rem a b => (denI ν a).tmod (denI ν b)
  | .wr k a => k.wrap (denI ν a)
  | .ite c a b => if denB ν c then denI ν a else denI ν b
  | .len s => (denS ν s).size
  | .byte s i => ((denS ν s).data.getD (denI ν i).toNat 0).toNat
  | .clen c => (denC ν c).length
  | .cell c i f => (cellAt (denC ν c) (denI ν i) f).int
  | .mpos c k => (mposL (denC ν c) (denS ν k) : Nat)
  | .shr a n => (denI ν a).fdiv (2 ^ n)
  | .shl k a n => k.wrap (denI ν a * 2 ^ n)
  | .rune s p => (Utf8.decode (denS ν s) (denI ν p).toNat).1
  | .runeW s p => (Utf8.decode (denS ν s) (denI ν p).toNat).2
  | .shrv k a b => (denI ν a).fdiv (2 ^ min (denI ν b).toNat k.bits)
  | .shlv k a b => k.wrap (denI ν a * 2 ^ min (denI ν b).toNat k.bits)
  | .band k a b => k.wrap ((BitVec.ofInt k.bits (denI ν a) &&& BitVec.ofInt k.bits (denI ν b)).toNat)
  | .bor k a b => k.wrap ((BitVec.ofInt k.bits (denI ν a) ||| BitVec.ofInt k.bits (denI ν b)).toNat)
  | _ => 0
def denB (ν : Nu) : E → Bool
  | .var n => (Nu.at ν n).bool
  | .bool b => b
  | .lt a b => decide (denI ν a < denI ν b)
  | .le a b => decide (denI ν a ≤ denI ν b)
  | .eq a b => denI ν a == denI ν b
  | .eqb a b => denB ν a == denB ν b
  | .eqs a b => (denS ν a).toList == (denS ν b).toList
  | .lts a b => Op.bytesLess (denS ν a).toList (denS ν b).toList
  | .not a => !denB ν a
  | .and a b => denB ν a && denB ν b
  | .ite c a b => if denB ν c then denB ν a else denB ν b
  | .cell c i f => (cellAt (denC ν c) (denI ν i) f).bool
  | _ => false
def denS (ν : Nu) : E → ByteArray
  | .var n => (Nu.at ν n).str
  | .str l => ⟨l.toArray⟩
  | .cat s t => denS ν s ++ denS ν t
  | .sOf c => ⟨((denC ν c).map fun el => UInt8.ofNat (el.getD 0 default).int.toNat).toArray⟩
  | .cut s i j => (denS ν s).extract (denI ν i).toNat (denI ν j).toNat
  | .ite c a b => if denB ν c then denS ν a else denS ν b
  | .cell c i f => (cellAt (denC ν c) (denI ν i) f).str
  | _ => ⟨#[]⟩
def denC (ν : Nu) : E → List (List CV)
  | .var n => (Nu.at ν n).els
  | .cell c i f => (cellAt (denC ν c) (denI ν i) f).els
  | .drop c n => (denC ν c).drop (denI ν n).toNat
  | .take c n => (denC ν c).take (denI ν n).toNat
  | .ite c a b => if denB ν c then denC ν a else denC ν b
  | _ => []
end

/-- the variables are among the first n -/
def E.ok (n : Nat) : E → Bool
  | .var m => Nat.blt m n
  | .int _ | .bool _ | .str _ => true
  | .add a b | .sub a b | .mul a b | .quo a b | .rem a b | .lt a b | .le a b | .eq a b | .eqb a b | .eqs a b | .lts a b | .and a b | .byte a b | .cat a b
  | .drop a b | .take a b | .rune a b | .runeW a b | .band _ a b | .bor _ a b | .shrv _ a b | .shlv _ a b | .mpos a b => a.ok n && b.ok n
  | .wr _ a | .not a | .len a | .clen a | .sOf a | .shr a _ | .shl _ a _ => a.ok n
  | .cell a b _ => a.ok n && b.ok n
  | .ite a b c | .cut a b c => a.ok n && b.ok n && c.ok n

/-- What is known of a value. -/
inductive LV where
  | b (e : E)
  | i (k : IntKind) (e : E)
  | s (e : E)
  | k (v : Value)
  | vs (c : E)
  | vp (c i : E) (f : Nat)
  | agg (cs : List LV)
  | tup (vs : List LV)
  | ptr (id ver off : Nat)
  | rp (id ver : Nat) (i : E) (f : Nat)
  | rs (id ver : Nat) (o n : E)
  | junk
  | g (c : E) (v : LV)
  | fn (f : FuncId) (caps : List LV)
  | nl (c : E) (neg : Bool)
  | mp (id ver : Nat)
  | ifc (t : TypeId) (v : LV)
  | o (e : E)
  deriving Inhabited

mutual
def LV.ok (n : Nat) : LV → Bool
  | .b e | .i _ e | .s e | .vs e | .o e => e.ok n
  | .k _ | .ptr _ _ _ | .junk | .mp _ _ => true
  | .vp c i _ => c.ok n && i.ok n
  | .agg cs | .tup cs | .fn _ cs => LVs.ok n cs
  | .nl c _ => c.ok n
  | .rp _ _ i _ => i.ok n
  | .rs _ _ o m => o.ok n && m.ok n
  | .g c v => c.ok n && v.ok n
  | .ifc _ v => v.ok n
def LVs.ok (n : Nat) : List LV → Bool
  | [] => true
  | c :: r => c.ok n && LVs.ok n r
end

/-- Own memory: a block of known cells; a row of elements that may grow; a text that is gone through. -/
inductive LO where
  | box (cs : List LV) (elem : TypeId)
  | row (c : E) (elem : TypeId) (sz : Nat)
  | iter (s p : E)
  | mp (c : E) (vk : Nat)
  | hole
  deriving Inhabited

def LO.ok (n : Nat) : LO → Bool
  | .box cs _ => LVs.ok n cs
  | .row c _ _ => c.ok n
  | .iter s p => s.ok n && p.ok n
  | .mp c _ => c.ok n
  | .hole => true
structure Ob where
  ver : Nat
  o : LO
  deriving Inhabited

/-- A type of the program's. -/
structure TI where
  desc : TypeDesc
  size : Nat
  bytes : Nat
  zero : Option Value
  eq : Bool
/-- a head of a loop, told beforehand -/
structure Hd where
  n0 : Nat
  m : Nat
  F : List LV
  L : List Ob
  n : Nat
  G : List LV
/-- types by their numbers; functions that hand back a row of their caller's own -/
structure Tab where
  ts : List (Nat × TI)
  bk : List Nat
  /-- in regions that draw their order: literals of slices are closed -/
  cl : Bool
  /-- closures that are run in place: what they capture stays what it is -/
  cp : List Nat
  /-- methods of pointers: type, name, function -/
  mt : List (Nat × List Nat × Nat)
  /-- heads of loops -/
  hs : List Hd
  /-- types whose values are not looked into -/
  oq : List Nat
def getT : List (Nat × TI) → Nat → Option TI
  | [], _ => none
  | (k, ti) :: r, t => bif Nat.beq k t then some ti else getT r t
def Tab.get (T : Tab) (t : Nat) : Option TI := getT T.ts t
def isInN (k : Nat) : List Nat → Bool
  | [] => false
  | j :: r => Nat.beq j k || isInN k r
def Tab.back (T : Tab) (f : Nat) : Bool := isInN f T.bk
def Tab.cap (T : Tab) (f : Nat) : Bool := isInN f T.cp
def strOf (k : List Nat) : String := String.ofList (k.map Char.ofNat)
def methL : List (Nat × List Nat × Nat) → Nat → String → Option Nat
  | [], _, _ => none
  | (t, k, f) :: r, u, s => bif Nat.beq t u && (s == strOf k) then some f else methL r u s
def Tab.meth (T : Tab) (t : Nat) (s : String) : Option Nat := methL T.mt t s

/-- New contents of a row. -/
inductive DC where
  | app (c d : E)
  | appS (c s : E)
  | set (c i : E) (f : Nat) (cells : List LV)
  | rep (n : E) (cells : List LV)
  | lit (els : List (List LV))
  | bytes (s : E)
  | mput (c k : E) (v : LV)
  deriving Inhabited

/-- What must hold. -/
inductive Need where
  | ix (i n : E)
  | cuts (a b n : E)
  | ne0 (a : E)
  | kinds (c i : E) (f : Nat) (ks : List Nat)
  | fits (n : E) (bytes : Nat)
  | strs (a b : E)
  | bytesC (c : E)
  | szAll (c : E) (n : Nat)
  | le (a b : E)
  deriving Inhabited

def DC.ok (n : Nat) : DC → Bool
  | .app c d | .appS c d => c.ok n && d.ok n
  | .set c i _ cells => c.ok n && i.ok n && LVs.ok n cells
  | .rep m cells => m.ok n && LVs.ok n cells
  | .lit els => els.all (LVs.ok n)
  | .bytes s => s.ok n
  | .mput c k v => c.ok n && k.ok n && v.ok n
def Need.ok (n : Nat) : Need → Bool
  | .ix i m => i.ok n && m.ok n
  | .cuts a b m => a.ok n && b.ok n && m.ok n
  | .ne0 a => a.ok n
  | .kinds c i _ _ => c.ok n && i.ok n
  | .fits m _ => m.ok n
  | .strs a b => a.ok n && b.ok n
  | .bytesC c => c.ok n
  | .szAll c _ => c.ok n
  | .le a b => a.ok n && b.ok n
def needsOk (n : Nat) : List Need → Bool
  | [] => true
  | p :: r => p.ok n && needsOk n r

def litOf : Value → LV
  | .bool b => .b (.bool b)
  | .int k n => .i k (.int n)
  | .string s => .s (.str s.data.toList)
  | v => .k v
def lvOf : Value → LV
  | .agg cs => .agg (cs.toList.map litOf)
  | .tuple vs => .tup (vs.toList.map litOf)
  | v => litOf v
def LV.cells : LV → List LV
  | .agg cs => cs
  | v => [v]
def valOne : Value → Bool
  | .agg _ | .tuple _ => false
  | _ => true
def LV.one : LV → Bool
  | .k v => valOne v
  | .agg _ | .tup _ | .junk | .g _ _ => false
  | _ => true
/-- a cell of closed data -/
def LV.shut : LV → Bool
  | .k v => valOne v
  | .b _ | .i _ _ | .s _ | .vs _ | .o _ => true
  | _ => false
def aggT : TypeDesc → Bool
  | .struct _ | .array _ _ => true
  | _ => false

def getL : List LV → Nat → LV
  | [], _ => .junk
  | c :: _, 0 => c
  | _ :: r, n + 1 => getL r n
def atL : List LV → Nat → Option LV
  | [], _ => none
  | c :: _, 0 => some c
  | _ :: r, n + 1 => atL r n
def setL : List LV → Nat → LV → List LV
  | [], _, _ => []
  | _ :: r, 0, v => v :: r
  | c :: r, n + 1, v => c :: setL r n v
def spanL (cs : List LV) (off : Nat) : Nat → Option (List LV)
  | 0 => some []
  | n + 1 => match atL cs off, spanL cs (off + 1) n with
    | some c, some r => some (c :: r)
    | _, _ => none
def putL (cs : List LV) (off : Nat) : List LV → List LV
  | [] => cs
  | v :: r => putL (setL cs off v) (off + 1) r
def getO : List Ob → Nat → Option Ob
  | [], _ => none
  | c :: _, 0 => some c
  | _ :: r, n + 1 => getO r n
def setO : List Ob → Nat → Ob → List Ob
  | [], _, _ => []
  | _ :: r, 0, v => v :: r
  | c :: r, n + 1, v => c :: setO r n v

/- terms made with a look at what is known -/
def E.isInt : E → Option Int
  | .int z => some z
  | _ => none
def mkWr (k : IntKind) : E → E
  | .int z => .int (k.wrap z)
  | e => .wr k e
def mkBin (f : Int → Int → Int) (g : E → E → E) (a b : E) : E :=
  match a, b with
  | .int x, .int y => .int (f x y)
  | a, b => g a b
def mkRel (f : Int → Int → Bool) (g : E → E → E) (a b : E) : E :=
  match a, b with
  | .int x, .int y => .bool (f x y)
  | a, b => g a b
def mkNot : E → E
  | .bool b => .bool (!b)
  | .not e => e
  | e => .not e
def mkAnd : E → E → E
  | .bool true, b => b
  | .bool false, _ => .bool false
  | a, b => .and a b
def mkIte : E → E → E → E
  | .bool true, a, _ => a
  | .bool false, _, b => b
  | c, a, b => .ite c a b
def mkEqs : E → E → E
  | .str a, .str b => .bool (a == b)
  | a, b => .eqs a b
def mkLen : E → E
  | .str l => .int l.length
  | e => .len e
def mkCut : E → E → E → E
  | s, i, j => .cut s i j

inductive Eff where
  | no
  | new (o : LO)
  | upd (i : Nat) (o : Ob)
  | newc (d : DC) (o : E → LO) (v : E → LV)
  | updc (d : DC) (i : Nat) (o : E → Ob) (v : E → LV)

/-- what an operation comes to -/
structure Out where
  needs : List Need
  v : LV
  e : Eff

/-- kinds of cells: a signed code for a type -/
def kindT : TypeDesc → Nat
  | .int .i8 => 1 | .int .i16 => 2 | .int .i32 => 3 | .int .i64 => 4 | .int .u8 => 5 | .int .u16 => 6 | .int .u32 => 7 | .int .u64 => 8
  | .bool => 9 | .string => 10 | .slice _ => 11
  | _ => 0
def kindC : CV → Nat
  | .v (.int .i8 _) => 1 | .v (.int .i16 _) => 2 | .v (.int .i32 _) => 3 | .v (.int .i64 _) => 4 | .v (.int .u8 _) => 5 | .v (.int .u16 _) => 6 | .v (.int .u32 _) => 7 | .v (.int .u64 _) => 8
  | .v (.bool _) => 9 | .v (.string _) => 10 | .vs _ => 11 | .sem _ => 12
  | _ => 0
def kindV : LV → Nat
  | .i .i8 _ => 1 | .i .i16 _ => 2 | .i .i32 _ => 3 | .i .i64 _ => 4 | .i .u8 _ => 5 | .i .u16 _ => 6 | .i .u32 _ => 7 | .i .u64 _ => 8
  | .b _ => 9 | .s _ => 10 | .vs _ => 11
  | _ => 0
def lvK (k : Nat) (e : E) : Option LV :=
  match k with
  | 1 => some (.i .i8 e) | 2 => some (.i .i16 e) | 3 => some (.i .i32 e) | 4 => some (.i .i64 e) | 5 => some (.i .u8 e) | 6 => some (.i .u16 e) | 7 => some (.i .u32 e) | 8 => some (.i .u64 e)
  | 9 => some (.b e) | 10 => some (.s e) | 11 => some (.vs e) | 12 => some (.o e)
  | _ => none
/-- the kinds of a type's cells -/
def kindsT (T : Tab) : Nat → TypeId → Option (List Nat)
  | 0, _ => none
  | d + 1, t => bif isInN t T.oq then some [12] else match T.get t with
    | some ti => match ti.desc with
      | .struct fs => fs.toList.foldr (fun f acc => match kindsT T d f.type, acc with | some a, some b => some (a ++ b) | _, _ => none) (some [])
      | .array _ _ => none
      | de => match kindT de with
        | 0 => none
        | k + 1 => some [k + 1]
    | none => none
def cellsK (c i : E) : Nat → List Nat → Option (List LV)
  | _, [] => some []
  | f, k :: ks => match lvK k (.cell c i f), cellsK c i (f + 1) ks with
    | some x, some r => some (x :: r)
    | _, _ => none
def aggOr (agg : Bool) (l : List LV) : Option LV :=
  bif agg then some (.agg l) else match l with
    | [x] => some x
    | _ => none
/-- what a place among elements holds -/
def rdE (T : Tab) (t : TypeId) (agg : Bool) (size : Nat) (c i : E) (f : Nat) : Option Out :=
  match kindsT T 8 t with
  | some ks => bif !Nat.beq ks.length size then none else match cellsK c i f ks with
    | some l => match aggOr agg l with
      | some v => some ⟨[.kinds c i f ks], v, .no⟩
      | none => none
    | none => none
  | none => none
/-- what a place of a block holds -/
def rdB (agg : Bool) (size : Nat) (cs : List LV) (off : Nat) : Option Out :=
  match spanL cs off size with
  | some l => match aggOr agg l with
    | some v => some ⟨[], v, .no⟩
    | none => none
  | none => none

def fillL (place : Nat → Option (Nat × Nat)) (cells : List LV) : List (Nat × LV) → Option (List LV)
  | [] => some cells
  | (i, v) :: rest =>
    match place i with
    | none => none
    | some (off, size) =>
      bif Nat.beq v.cells.length size && Nat.ble (off + size) cells.length && v.cells.all LV.one then fillL place (putL cells off v.cells) rest else none

def intOp (op : BinOp) (k : IntKind) (a b : E) : Option Out :=
  match op with
  | .add => some ⟨[], .i k (mkWr k (mkBin (· + ·) .add a b)), .no⟩
  | .sub => some ⟨[], .i k (mkWr k (mkBin (· - ·) .sub a b)), .no⟩
  | .mul => some ⟨[], .i k (mkWr k (mkBin (· * ·) .mul a b)), .no⟩
  | .quo => some ⟨[.ne0 b], .i k (mkWr k (mkBin Int.tdiv .quo a b)), .no⟩
  | .rem => some ⟨[.ne0 b], .i k (mkBin Int.tmod .rem a b), .no⟩
  | .eql => some ⟨[], .b (mkRel (· == ·) .eq a b), .no⟩
  | .neq => some ⟨[], .b (mkNot (mkRel (· == ·) .eq a b)), .no⟩
  | .lss => some ⟨[], .b (mkRel (fun x y => decide (x < y)) .lt a b), .no⟩
  | .leq => some ⟨[], .b (mkRel (fun x y => decide (x ≤ y)) .le a b), .no⟩
  | .gtr => some ⟨[], .b (mkRel (fun x y => decide (x < y)) .lt b a), .no⟩
  | .geq => some ⟨[], .b (mkRel (fun x y => decide (x ≤ y)) .le b a), .no⟩
  | .and => some ⟨[], .i k (.band k a b), .no⟩
  | .or => some ⟨[], .i k (.bor k a b), .no⟩
  | _ => none
def strOp (op : BinOp) (a b : E) : Option Out :=
  match op with
  | .add => some ⟨[.strs a b], .s (.cat a b), .no⟩
  | .eql => some ⟨[], .b (mkEqs a b), .no⟩
  | .neq => some ⟨[], .b (mkNot (mkEqs a b)), .no⟩
  | .lss => some ⟨[], .b (.lts a b), .no⟩
  | .gtr => some ⟨[], .b (mkNot (mkIte (.lts a b) (.bool true) (mkEqs a b))), .no⟩
  | .leq => some ⟨[], .b (mkIte (.lts a b) (.bool true) (mkEqs a b)), .no⟩
  | .geq => some ⟨[], .b (mkNot (.lts a b)), .no⟩
  | _ => none
def kEq (a b : IntKind) : Bool :=
  match a, b with
  | .i8, .i8 | .i16, .i16 | .i32, .i32 | .i64, .i64 | .u8, .u8 | .u16, .u16 | .u32, .u32 | .u64, .u64 => true
  | _, _ => false
/-- are two cells of a type alike? -/
def eqC (d : TypeDesc) (a b : LV) : Option E :=
  match d, a, b with
  | .int _, .i k a, .i k' b => bif kEq k k' then some (mkRel (· == ·) .eq a b) else none
  | .string, .s a, .s b => some (mkEqs a b)
  | .bool, .b a, .b b => some (.eqb a b)
  | _, _, _ => none
/-- two structs, field by field, each field one cell -/
def eqFs (T : Tab) : List Field → Nat → List LV → List LV → Option E
  | [], _, [], [] => some (.bool true)
  | f :: r, i, a :: as, b :: bs => match T.get f.type with
    | some ti => bif Nat.beq f.offset i && (f.name != "_") then match eqC ti.desc a b, eqFs T r (i + 1) as bs with
        | some x, some y => some (mkAnd x y)
        | _, _ => none
      else none
    | none => none
  | _, _, _, _ => none
def binO (T : Tab) (op : BinOp) (t : TypeId) (a b : LV) : Option Out :=
  match a, b with
  | .i k x, .i k' y =>
    match op, y with
    | .shr, .int z => match z with
      | .ofNat n => bif Nat.blt n k.bits then some ⟨[], .i k (.shr x n), .no⟩ else none
      | _ => none
    | .shl, .int z => match z with
      | .ofNat n => bif Nat.blt n k.bits then some ⟨[], .i k (.shl k x n), .no⟩ else none
      | _ => none
    | .shr, y => some ⟨[.le (.int 0) y], .i k (.shrv k x y), .no⟩
    | .shl, y => some ⟨[.le (.int 0) y], .i k (.shlv k x y), .no⟩
    | op, y => bif kEq k k' then intOp op k x y else none
  | .s x, .s y => strOp op x y
  | .b x, .b y => match T.get t with
    | some { desc := .bool, .. } => match op with
      | .eql => some ⟨[], .b (.eqb x y), .no⟩
      | .neq => some ⟨[], .b (mkNot (.eqb x y)), .no⟩
      | _ => none
    | _ => none
  | .vs c, .k (.slice none 0 0) => match T.get t with
    | some { desc := .slice _, .. } => match op with
      | .eql => some ⟨[], .nl c false, .no⟩
      | .neq => some ⟨[], .nl c true, .no⟩
      | _ => none
    | _ => none
  | .agg xs, .agg ys => match T.get t with
    | some { desc := .struct fs, eq := true, .. } => match op, eqFs T fs.toList 0 xs ys with
      | .eql, some e => some ⟨[], .b e, .no⟩
      | .neq, some e => some ⟨[], .b (mkNot e), .no⟩
      | _, _ => none
    | _ => none
  | _, _ => none
/-- does one truth say the other? -/
def implies (g h : E) : Bool :=
  decide (g = h) || match g with
    | .and a b => implies a h || implies b h
    | _ => false
def implies2 (g : E) : E → Bool
  | .and a b => implies g (.and a b) || (implies2 g a && implies2 g b)
  | .bool true => true
  | h => implies g h
def strip (g : E) : LV → LV
  | .g h v => bif implies2 g h then v else .junk
  | v => v
/-- one of two values -/
def pk (c : E) (a b : LV) : Option LV :=
  match c with
  | .bool true => some a
  | .bool false => some b
  | c => match a, b with
    | .b x, .b y => some (.b (mkIte c x y))
    | .i k x, .i k' y => bif kEq k k' then some (.i k (.ite c x y)) else none
    | .s x, .s y => some (.s (.ite c x y))
    | _, _ => none

def isNil : LV → Bool
  | .k (.slice none _ _) => true
  | _ => false
end Go.Proofs.Ytdgjcdhomfhfpaa
