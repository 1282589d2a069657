/- A symbolic run of Go code over known data: what is known of values and memory is a finite term without free variables, so the kernel reckons it. No condition. -/
import Derived.WalkKit
import Derived.ProofKit
import Derived.WalkSpells
import Derived.WalkLawsBesides
import Derived.Lib.Hide
import Derived.Below
set_option linter.unusedSimpArgs false
set_option linter.unusedVariables false
namespace Go.Proofs.YtcdeimjlgpfjiaaGreatDoor
section
inductive E where
 | var (n:Nat)
 | int (z:Int) | bool (b:Bool) | str (l:List UInt8)
 | add (a b:E) | sub (a b:E) | mul (a b:E) | quo (a b:E) | rem (a b:E) | wr (k:IntKind) (a:E)
 | lt (a b:E) | le (a b:E) | eq (a b:E) | eqb (a b:E) | eqs (a b:E) | lts (a b:E)
 | not (a:E) | and (a b:E) | ite (c a b:E)
 | len (s:E) | byte (s i:E) | cat (s t:E) | cut (s i j:E)
 | clen (c:E) | cell (c i:E) (f:Nat) | drop (c n:E) | take (c n:E)
 | sOf (c:E) | rune (s p:E) | runeW (s p:E)
 | mpos (c k:E)
 | shr (a:E) (n:Nat) | shl (k:IntKind) (a:E) (n:Nat) | band (k:IntKind) (a b:E) | bor (k:IntKind) (a b:E)
 | shrv (k:IntKind) (a b:E) | shlv (k:IntKind) (a b:E)
 deriving Inhabited,DecidableEq
inductive CV where
 | v (x:Value)
 | vs (els:List (List CV))
 | sem (Q:World→Value→Prop)
 deriving Inhabited
def CV.int:CV→Int
 | .v (.int _ z)=>z
 | _=>0
def CV.bool:CV→Bool
 | .v (.bool b)=>b
 | _=>false
def CV.str:CV→ByteArray
 | .v (.string s)=>s
 | _=>⟨#[]⟩
def CV.els:CV→List (List CV)
 | .vs l=>l
 | _=>[]
inductive D where
 | i (z:Int)
 | b (x:Bool)
 | s (x:ByteArray)
 | l (c:List (List CV))
 deriving Inhabited
abbrev Nu:=List D
def Nu.at (ν:Nu) (n:Nat):D :=
 match ν,n with
 | [],_=>.b false
 | d::_,0=>d
 | _::r,n+1=>Nu.at r n
def D.int:D→Int
 | .i z=>z
 | _=>0
def D.bool:D→Bool
 | .b x=>x
 | _=>false
def D.str:D→ByteArray
 | .s x=>x
 | _=>⟨#[]⟩
def D.els:D→List (List CV)
 | .l c=>c
 | _=>[]
def aAa (c:List (List CV)) (i:Int) (f:Nat):CV:=(c.getD i.toNat []).getD f default
def aBy (c:List (List CV)) (k:ByteArray):Nat:=c.findIdx fun el=>k==(el.getD 0 default).str
mutual
def denI (ν:Nu):E→Int
 | .var n=>(Nu.at ν n).int
 | .int z=>z
 | .add a b=>denI ν a+denI ν b
 | .sub a b=>denI ν a - denI ν b
 | .mul a b=>denI ν a*denI ν b
 | .quo a b=>(denI ν a).tdiv (denI ν b)
 | .rem a b=>(denI ν a).tmod (denI ν b)
 | .wr k a=>k.wrap (denI ν a)
 | .ite c a b=>if denB ν c then denI ν a else denI ν b
 | .len s=>(denS ν s).size
 | .byte s i=>((denS ν s).data.getD (denI ν i).toNat 0).toNat
 | .clen c=>(denC ν c).length
 | .cell c i f=>(aAa (denC ν c) (denI ν i) f).int
 | .mpos c k=>(aBy (denC ν c) (denS ν k):Nat)
 | .shr a n=>(denI ν a).fdiv (2 ^ n)
 | .shl k a n=>k.wrap (denI ν a*2 ^ n)
 | .rune s p=>(Utf8.decode (denS ν s) (denI ν p).toNat).1
 | .runeW s p=>(Utf8.decode (denS ν s) (denI ν p).toNat).2
 | .shrv k a b=>(denI ν a).fdiv (2 ^ min (denI ν b).toNat k.bits)
 | .shlv k a b=>k.wrap (denI ν a*2 ^ min (denI ν b).toNat k.bits)
 | .band k a b=>k.wrap ((BitVec.ofInt k.bits (denI ν a) &&& BitVec.ofInt k.bits (denI ν b)).toNat)
 | .bor k a b=>k.wrap ((BitVec.ofInt k.bits (denI ν a) ||| BitVec.ofInt k.bits (denI ν b)).toNat)
 | _=>0
def denB (ν:Nu):E→Bool
 | .var n=>(Nu.at ν n).bool
 | .bool b=>b
 | .lt a b=>decide (denI ν a<denI ν b)
 | .le a b=>decide (denI ν a≤denI ν b)
 | .eq a b=>denI ν a==denI ν b
 | .eqb a b=>denB ν a==denB ν b
 | .eqs a b=>(denS ν a).toList==(denS ν b).toList
 | .lts a b=>Op.bytesLess (denS ν a).toList (denS ν b).toList
 | .not a=>!denB ν a
 | .and a b=>denB ν a&&denB ν b
 | .ite c a b=>if denB ν c then denB ν a else denB ν b
 | .cell c i f=>(aAa (denC ν c) (denI ν i) f).bool
 | _=>false
def denS (ν:Nu):E→ByteArray
 | .var n=>(Nu.at ν n).str
 | .str l=>⟨l.toArray⟩
 | .cat s t=>denS ν s++denS ν t
 | .sOf c=>⟨((denC ν c).map fun el=>UInt8.ofNat (el.getD 0 default).int.toNat).toArray⟩
 | .cut s i j=>(denS ν s).extract (denI ν i).toNat (denI ν j).toNat
 | .ite c a b=>if denB ν c then denS ν a else denS ν b
 | .cell c i f=>(aAa (denC ν c) (denI ν i) f).str
 | _=>⟨#[]⟩
def denC (ν:Nu):E→List (List CV)
 | .var n=>(Nu.at ν n).els
 | .cell c i f=>(aAa (denC ν c) (denI ν i) f).els
 | .drop c n=>(denC ν c).drop (denI ν n).toNat
 | .take c n=>(denC ν c).take (denI ν n).toNat
 | .ite c a b=>if denB ν c then denC ν a else denC ν b
 | _=>[]
end
def E.ok (n:Nat):E→Bool
 | .var m=>Nat.blt m n
 | .int _ | .bool _ | .str _=>true
 | .add a b | .sub a b | .mul a b | .quo a b | .rem a b | .lt a b | .le a b | .eq a b | .eqb a b | .eqs a b | .lts a b | .and a b | .byte a b | .cat a b
 | .drop a b | .take a b | .rune a b | .runeW a b | .band _ a b | .bor _ a b | .shrv _ a b | .shlv _ a b | .mpos a b=>a.ok n&&b.ok n
 | .wr _ a | .not a | .len a | .clen a | .sOf a | .shr a _ | .shl _ a _=>a.ok n
 | .cell a b _=>a.ok n&&b.ok n
 | .ite a b c | .cut a b c=>a.ok n&&b.ok n&&c.ok n
inductive LV where
 | b (e:E)
 | i (k:IntKind) (e:E)
 | s (e:E)
 | k (v:Value)
 | vs (c:E)
 | vp (c i:E) (f:Nat)
 | agg (cs:List LV)
 | tup (vs:List LV)
 | ptr (id ver off:Nat)
 | rp (id ver:Nat) (i:E) (f:Nat)
 | rs (id ver:Nat) (o n:E)
 | junk
 | g (c:E) (v:LV)
 | fn (f:FuncId) (caps:List LV)
 | nl (c:E) (neg:Bool)
 | mp (id ver:Nat)
 | ifc (t:TypeId) (v:LV)
 | o (e:E)
 deriving Inhabited
mutual
def LV.ok (n:Nat):LV→Bool
 | .b e | .i _ e | .s e | .vs e | .o e=>e.ok n
 | .k _ | .ptr _ _ _ | .junk | .mp _ _=>true
 | .vp c i _=>c.ok n&&i.ok n
 | .agg cs | .tup cs | .fn _ cs=>LVs.ok n cs
 | .nl c _=>c.ok n
 | .rp _ _ i _=>i.ok n
 | .rs _ _ o m=>o.ok n&&m.ok n
 | .g c v=>c.ok n&&v.ok n
 | .ifc _ v=>v.ok n
def LVs.ok (n:Nat):List LV→Bool
 | []=>true
 | c::r=>c.ok n&&LVs.ok n r
end
inductive LO where
 | box (cs:List LV) (elem:TypeId)
 | row (c:E) (elem:TypeId) (sz:Nat)
 | iter (s p:E)
 | mp (c:E) (vk:Nat)
 | hole
 deriving Inhabited
def LO.ok (n:Nat):LO→Bool
 | .box cs _=>LVs.ok n cs
 | .row c _ _=>c.ok n
 | .iter s p=>s.ok n&&p.ok n
 | .mp c _=>c.ok n
 | .hole=>true
structure Ob where
 ver:Nat
 o:LO
 deriving Inhabited
structure TI where
 desc:TypeDesc
 size:Nat
 bytes:Nat
 zero:Option Value
 eq:Bool
structure Hd where
 n0:Nat
 m:Nat
 F:List LV
 L:List Ob
 n:Nat
 G:List LV
structure Tab where
 ts:List (Nat×TI)
 bk:List Nat
 cl:Bool
 cp:List Nat
 mt:List (Nat×List Nat×Nat)
 hs:List Hd
 oq:List Nat
def getT:List (Nat×TI)→Nat→Option TI
 | [],_=>none
 | (k,ti)::r,t=>bif Nat.beq k t then some ti else getT r t
def Tab.get (T:Tab) (t:Nat):Option TI:=getT T.ts t
def aNN (k:Nat):List Nat→Bool
 | []=>false
 | j::r=>Nat.beq j k||aNN k r
def Tab.back (T:Tab) (f:Nat):Bool:=aNN f T.bk
def Tab.cap (T:Tab) (f:Nat):Bool:=aNN f T.cp
def aDh (k:List Nat):String:=String.ofList (k.map Char.ofNat)
def aPo:List (Nat×List Nat×Nat)→Nat→String→Option Nat
 | [],_,_=>none
 | (t,k,f)::r,u,s=>bif Nat.beq t u&&(s==aDh k) then some f else aPo r u s
def Tab.meth (T:Tab) (t:Nat) (s:String):Option Nat:=aPo T.mt t s
inductive DC where
 | app (c d:E)
 | appS (c s:E)
 | set (c i:E) (f:Nat) (cells:List LV)
 | rep (n:E) (cells:List LV)
 | lit (els:List (List LV))
 | bytes (s:E)
 | mput (c k:E) (v:LV)
 deriving Inhabited
inductive Need where
 | ix (i n:E)
 | cuts (a b n:E)
 | ne0 (a:E)
 | kinds (c i:E) (f:Nat) (ks:List Nat)
 | fits (n:E) (bytes:Nat)
 | strs (a b:E)
 | bytesC (c:E)
 | szAll (c:E) (n:Nat)
 | le (a b:E)
 deriving Inhabited
def DC.ok (n:Nat):DC→Bool
 | .app c d | .appS c d=>c.ok n&&d.ok n
 | .set c i _ cells=>c.ok n&&i.ok n&&LVs.ok n cells
 | .rep m cells=>m.ok n&&LVs.ok n cells
 | .lit els=>els.all (LVs.ok n)
 | .bytes s=>s.ok n
 | .mput c k v=>c.ok n&&k.ok n&&v.ok n
def Need.ok (n:Nat):Need→Bool
 | .ix i m=>i.ok n&&m.ok n
 | .cuts a b m=>a.ok n&&b.ok n&&m.ok n
 | .ne0 a=>a.ok n
 | .kinds c i _ _=>c.ok n&&i.ok n
 | .fits m _=>m.ok n
 | .strs a b=>a.ok n&&b.ok n
 | .bytesC c=>c.ok n
 | .szAll c _=>c.ok n
 | .le a b=>a.ok n&&b.ok n
def aAU (n:Nat):List Need→Bool
 | []=>true
 | p::r=>p.ok n&&aAU n r
def aFO:Value→LV
 | .bool b=>.b (.bool b)
 | .int k n=>.i k (.int n)
 | .string s=>.s (.str s.data.toList)
 | v=>.k v
def lvOf:Value→LV
 | .agg cs=>.agg (cs.toList.map aFO)
 | .tuple vs=>.tup (vs.toList.map aFO)
 | v=>aFO v
def LV.cells:LV→List LV
 | .agg cs=>cs
 | v=>[v]
def aM4:Value→Bool
 | .agg _ | .tuple _=>false
 | _=>true
def LV.one:LV→Bool
 | .k v=>aM4 v
 | .agg _ | .tup _ | .junk | .g _ _=>false
 | _=>true
def LV.shut:LV→Bool
 | .k v=>aM4 v
 | .b _ | .i _ _ | .s _ | .vs _ | .o _=>true
 | _=>false
def aggT:TypeDesc→Bool
 | .struct _ | .array _ _=>true
 | _=>false
def getL:List LV→Nat→LV
 | [],_=>.junk
 | c::_,0=>c
 | _::r,n+1=>getL r n
def atL:List LV→Nat→Option LV
 | [],_=>none
 | c::_,0=>some c
 | _::r,n+1=>atL r n
def setL:List LV→Nat→LV→List LV
 | [],_,_=>[]
 | _::r,0,v=>v::r
 | c::r,n+1,v=>c::setL r n v
def aIY (cs:List LV) (off:Nat):Nat→Option (List LV)
 | 0=>some []
 | n+1=>match atL cs off,aIY cs (off+1) n with
  | some c,some r=>some (c::r)
  | _,_=>none
def putL (cs:List LV) (off:Nat):List LV→List LV
 | []=>cs
 | v::r=>putL (setL cs off v) (off+1) r
def getO:List Ob→Nat→Option Ob
 | [],_=>none
 | c::_,0=>some c
 | _::r,n+1=>getO r n
def setO:List Ob→Nat→Ob→List Ob
 | [],_,_=>[]
 | _::r,0,v=>v::r
 | c::r,n+1,v=>c::setO r n v
def E.isInt:E→Option Int
 | .int z=>some z
 | _=>none
def mkWr (k:IntKind):E→E
 | .int z=>.int (k.wrap z)
 | e=>.wr k e
def aHQ (f:Int→Int→Int) (g:E→E→E) (a b:E):E :=
 match a,b with
 | .int x,.int y=>.int (f x y)
 | a,b=>g a b
def aGi (f:Int→Int→Bool) (g:E→E→E) (a b:E):E :=
 match a,b with
 | .int x,.int y=>.bool (f x y)
 | a,b=>g a b
def aFu:E→E
 | .bool b=>.bool (!b)
 | .not e=>e
 | e=>.not e
def aKU:E→E→E
 | .bool true,b=>b
 | .bool false,_=>.bool false
 | a,b=>.and a b
def aJj:E→E→E→E
 | .bool true,a,_=>a
 | .bool false,_,b=>b
 | c,a,b=>.ite c a b
def aL3:E→E→E
 | .str a,.str b=>.bool (a==b)
 | a,b=>.eqs a b
def aG6:E→E
 | .str l=>.int l.length
 | e=>.len e
def aV0:E→E→E→E
 | s,i,j=>.cut s i j
inductive Eff where
 | no
 | new (o:LO)
 | upd (i:Nat) (o:Ob)
 | newc (d:DC) (o:E→LO) (v:E→LV)
 | updc (d:DC) (i:Nat) (o:E→Ob) (v:E→LV)
structure Out where
 needs:List Need
 v:LV
 e:Eff
def aVz:TypeDesc→Nat
 | .int .i8=>1 | .int .i16=>2 | .int .i32=>3 | .int .i64=>4 | .int .u8=>5 | .int .u16=>6 | .int .u32=>7 | .int .u64=>8
 | .bool=>9 | .string=>10 | .slice _=>11
 | _=>0
def aBA:CV→Nat
 | .v (.int .i8 _)=>1 | .v (.int .i16 _)=>2 | .v (.int .i32 _)=>3 | .v (.int .i64 _)=>4 | .v (.int .u8 _)=>5 | .v (.int .u16 _)=>6 | .v (.int .u32 _)=>7 | .v (.int .u64 _)=>8
 | .v (.bool _)=>9 | .v (.string _)=>10 | .vs _=>11 | .sem _=>12
 | _=>0
def aQO:LV→Nat
 | .i .i8 _=>1 | .i .i16 _=>2 | .i .i32 _=>3 | .i .i64 _=>4 | .i .u8 _=>5 | .i .u16 _=>6 | .i .u32 _=>7 | .i .u64 _=>8
 | .b _=>9 | .s _=>10 | .vs _=>11
 | _=>0
def lvK (k:Nat) (e:E):Option LV :=
 match k with
 | 1=>some (.i .i8 e) | 2=>some (.i .i16 e) | 3=>some (.i .i32 e) | 4=>some (.i .i64 e) | 5=>some (.i .u8 e) | 6=>some (.i .u16 e) | 7=>some (.i .u32 e) | 8=>some (.i .u64 e)
 | 9=>some (.b e) | 10=>some (.s e) | 11=>some (.vs e) | 12=>some (.o e)
 | _=>none
def aQG (T:Tab):Nat→TypeId→Option (List Nat)
 | 0,_=>none
 | d+1,t=>bif aNN t T.oq then some [12] else match T.get t with
  | some ti=>match ti.desc with
   | .struct fs=>fs.toList.foldr (fun f acc=>match aQG T d f.type,acc with | some a,some b=>some (a++b) | _,_=>none) (some [])
   | .array _ _=>none
   | de=>match aVz de with
    | 0=>none
    | k+1=>some [k+1]
  | none=>none
def aJr (c i:E):Nat→List Nat→Option (List LV)
 | _,[]=>some []
 | f,k::ks=>match lvK k (.cell c i f),aJr c i (f+1) ks with
  | some x,some r=>some (x::r)
  | _,_=>none
def aHR (agg:Bool) (l:List LV):Option LV :=
 bif agg then some (.agg l) else match l with
  | [x]=>some x
  | _=>none
def rdE (T:Tab) (t:TypeId) (agg:Bool) (size:Nat) (c i:E) (f:Nat):Option Out :=
 match aQG T 8 t with
 | some ks=>bif !Nat.beq ks.length size then none else match aJr c i f ks with
  | some l=>match aHR agg l with
   | some v=>some ⟨[.kinds c i f ks],v,.no⟩
   | none=>none
  | none=>none
 | none=>none
def rdB (agg:Bool) (size:Nat) (cs:List LV) (off:Nat):Option Out :=
 match aIY cs off size with
 | some l=>match aHR agg l with
  | some v=>some ⟨[],v,.no⟩
  | none=>none
 | none=>none
def aLH (place:Nat→Option (Nat×Nat)) (cells:List LV):List (Nat×LV)→Option (List LV)
 | []=>some cells
 | (i,v)::rest =>
  match place i with
  | none=>none
  | some (off,size) =>
   bif Nat.beq v.cells.length size&&Nat.ble (off+size) cells.length&&v.cells.all LV.one then aLH place (putL cells off v.cells) rest else none
def aT0 (op:BinOp) (k:IntKind) (a b:E):Option Out :=
 match op with
 | .add=>some ⟨[],.i k (mkWr k (aHQ (· + ·) .add a b)),.no⟩
 | .sub=>some ⟨[],.i k (mkWr k (aHQ (· - ·) .sub a b)),.no⟩
 | .mul=>some ⟨[],.i k (mkWr k (aHQ (· * ·) .mul a b)),.no⟩
 | .quo=>some ⟨[.ne0 b],.i k (mkWr k (aHQ Int.tdiv .quo a b)),.no⟩
 | .rem=>some ⟨[.ne0 b],.i k (aHQ Int.tmod .rem a b),.no⟩
 | .eql=>some ⟨[],.b (aGi (· == ·) .eq a b),.no⟩
 | .neq=>some ⟨[],.b (aFu (aGi (· == ·) .eq a b)),.no⟩
 | .lss=>some ⟨[],.b (aGi (fun x y=>decide (x<y)) .lt a b),.no⟩
 | .leq=>some ⟨[],.b (aGi (fun x y=>decide (x≤y)) .le a b),.no⟩
 | .gtr=>some ⟨[],.b (aGi (fun x y=>decide (x<y)) .lt b a),.no⟩
 | .geq=>some ⟨[],.b (aGi (fun x y=>decide (x≤y)) .le b a),.no⟩
 | .and=>some ⟨[],.i k (.band k a b),.no⟩
 | .or=>some ⟨[],.i k (.bor k a b),.no⟩
 | _=>none
def aT1 (op:BinOp) (a b:E):Option Out :=
 match op with
 | .add=>some ⟨[.strs a b],.s (.cat a b),.no⟩
 | .eql=>some ⟨[],.b (aL3 a b),.no⟩
 | .neq=>some ⟨[],.b (aFu (aL3 a b)),.no⟩
 | .lss=>some ⟨[],.b (.lts a b),.no⟩
 | .gtr=>some ⟨[],.b (aFu (aJj (.lts a b) (.bool true) (aL3 a b))),.no⟩
 | .leq=>some ⟨[],.b (aJj (.lts a b) (.bool true) (aL3 a b)),.no⟩
 | .geq=>some ⟨[],.b (aFu (.lts a b)),.no⟩
 | _=>none
def kEq (a b:IntKind):Bool :=
 match a,b with
 | .i8,.i8 | .i16,.i16 | .i32,.i32 | .i64,.i64 | .u8,.u8 | .u16,.u16 | .u32,.u32 | .u64,.u64=>true
 | _,_=>false
def eqC (d:TypeDesc) (a b:LV):Option E :=
 match d,a,b with
 | .int _,.i k a,.i k' b=>bif kEq k k' then some (aGi (· == ·) .eq a b) else none
 | .string,.s a,.s b=>some (aL3 a b)
 | .bool,.b a,.b b=>some (.eqb a b)
 | _,_,_=>none
def eqFs (T:Tab):List Field→Nat→List LV→List LV→Option E
 | [],_,[],[]=>some (.bool true)
 | f::r,i,a::as,b::bs=>match T.get f.type with
  | some ti=>bif Nat.beq f.offset i&&(f.name != "_") then match eqC ti.desc a b,eqFs T r (i+1) as bs with
   | some x,some y=>some (aKU x y)
   | _,_=>none
   else none
  | none=>none
 | _,_,_,_=>none
def binO (T:Tab) (op:BinOp) (t:TypeId) (a b:LV):Option Out :=
 match a,b with
 | .i k x,.i k' y =>
  match op,y with
  | .shr,.int z=>match z with
   | .ofNat n=>bif Nat.blt n k.bits then some ⟨[],.i k (.shr x n),.no⟩ else none
   | _=>none
  | .shl,.int z=>match z with
   | .ofNat n=>bif Nat.blt n k.bits then some ⟨[],.i k (.shl k x n),.no⟩ else none
   | _=>none
  | .shr,y=>some ⟨[.le (.int 0) y],.i k (.shrv k x y),.no⟩
  | .shl,y=>some ⟨[.le (.int 0) y],.i k (.shlv k x y),.no⟩
  | op,y=>bif kEq k k' then aT0 op k x y else none
 | .s x,.s y=>aT1 op x y
 | .b x,.b y=>match T.get t with
  | some { desc:=.bool,.. }=>match op with
   | .eql=>some ⟨[],.b (.eqb x y),.no⟩
   | .neq=>some ⟨[],.b (aFu (.eqb x y)),.no⟩
   | _=>none
  | _=>none
 | .vs c,.k (.slice none 0 0)=>match T.get t with
  | some { desc:=.slice _,.. }=>match op with
   | .eql=>some ⟨[],.nl c false,.no⟩
   | .neq=>some ⟨[],.nl c true,.no⟩
   | _=>none
  | _=>none
 | .agg xs,.agg ys=>match T.get t with
  | some { desc:=.struct fs,eq:=true,.. }=>match op,eqFs T fs.toList 0 xs ys with
   | .eql,some e=>some ⟨[],.b e,.no⟩
   | .neq,some e=>some ⟨[],.b (aFu e),.no⟩
   | _,_=>none
  | _=>none
 | _,_=>none
def aEA (g h:E):Bool :=
 decide (g=h)||match g with
  | .and a b=>aEA a h||aEA b h
  | _=>false
def aBV (g:E):E→Bool
 | .and a b=>aEA g (.and a b)||(aBV g a&&aBV g b)
 | .bool true=>true
 | h=>aEA g h
def aBw (g:E):LV→LV
 | .g h v=>bif aBV g h then v else .junk
 | v=>v
def pk (c:E) (a b:LV):Option LV :=
 match c with
 | .bool true=>some a
 | .bool false=>some b
 | c=>match a,b with
  | .b x,.b y=>some (.b (aJj c x y))
  | .i k x,.i k' y=>bif kEq k k' then some (.i k (.ite c x y)) else none
  | .s x,.s y=>some (.s (.ite c x y))
  | _,_=>none
def aV1:LV→Bool
 | .k (.slice none _ _)=>true
 | _=>false
end
section
structure St where
 F:List LV
 L:List Ob
 n:Nat
 G:List LV
def St.ev (S:St):Operand→LV
 | .tmp t=>getL S.F t
 | .const v=>lvOf v
 | .global g=>.k (.pointer (some ⟨g,0,none⟩))
 | .func f=>.k (.func (.func f) #[] #[])
def St.put (S:St) (dst:Option Tmp) (v:LV):St :=
 match dst with
 | some d=>{ S with F:=setL S.F d v }
 | none=>S
def aBH:E→E→Bool
 | .var a,.clen (.var b)=>Nat.beq a b
 | _,_=>false
def aJu (c n:E):E:=bif aBH c n then c else .take c n
def aNA:E→E→E:=aHQ (· + ·) .add
def aIl:E→E→E
 | .int 0,b=>b
 | a,.int 0=>a
 | a,b=>aNA a b
def aHh:E→E→E
 | c,.int 0=>c
 | c,n=>.drop c n
def aPq (a b:E):E :=
 match a,b with
 | a,.int 0=>a
 | a,b=>aHQ (· - ·) .sub a b
def cutC (hi:Bool) (c a b:E):E:=bif hi then .take (aHh c a) (aPq b a) else aHh c a
def intE:LV→Option E
 | .i _ e=>some e
 | _=>none
def optE (d:E):Option LV→Option E
 | none=>some d
 | some v=>intE v
def aCF:E→Bool
 | .int 0=>true
 | _=>false
def aA9 (get:Nat→Option Ob):LV→Option (E×List Need)
 | .vs c=>some (c,[])
 | .rs id ver o n=>match get id with
  | some ⟨ver',.row c _ _⟩=>bif Nat.beq ver ver' then (bif aCF o&&aBH c n then some (c,[]) else some (aJu (aHh c o) n,[.le (aIl o n) (.clen c)])) else none
  | _=>none
 | _=>none
def lenS (get:Nat→Option Ob):LV→Option E
 | .rs id ver _ n=>match get id with
  | some ⟨ver',_⟩=>bif Nat.beq ver ver' then some n else none
  | none=>none
 | .vs c=>some (.clen c)
 | .k (.slice none 0 0)=>some (.int 0)
 | _=>none
def aUb (T:Tab) (t:TypeId):Option TypeId :=
 match T.get t with
 | some { desc:=.slice e,.. }=>some e
 | _=>none
def aNf (get:Nat→Option Ob) (sz:Nat) (c:E):LV→Option (DC×E×List Need)
 | .s e=>bif Nat.beq sz 1 then some (.appS c e,aG6 e,[]) else none
 | .k (.slice none 0 0)=>some (.appS c (.str []),.int 0,[])
 | .vs d=>some (.app c d,.clen d,[.szAll d sz])
 | .rs id ver o n=>match get id with
  | some ⟨_,.row _ _ sz'⟩=>bif Nat.beq sz sz' then match aA9 get (.rs id ver o n) with
   | some (d,ns)=>some (.app c d,n,ns)
   | none=>none
   else none
  | _=>none
 | _=>none
def aBs:TypeDesc→Bool
 | .slice _ | .string=>true
 | _=>false
def aGC (T:Tab):List Field→Option (List (Nat×Nat))
 | []=>some []
 | f::r=>match T.get f.type,aGC T r with
  | some ti,some l=>some ((f.offset,ti.size)::l)
  | _,_=>none
def zeroCells:Value→List LV:=fun v=>(lvOf v).cells
def pkL (c:E):List LV→List LV→Option (List LV)
 | [],[]=>some []
 | a::as,b::bs=>match pk c a b,pkL c as bs with
  | some x,some r=>some (x::r)
  | _,_=>none
 | _,_=>none
def ixL (cs:List LV) (e:E) (sz:Nat):Nat→Nat→Option (List LV)
 | 0,_=>none
 | n+1,j=>match n with
  | 0=>aIY cs (j*sz) sz
  | _+1=>match aIY cs (j*sz) sz,ixL cs e sz n (j+1) with
   | some a,some b=>pkL (.eq e (.int j)) a b
   | _,_=>none
def eqlO (op:BinOp) (b:Bool):Option Out :=
 match op with
 | .eql=>some ⟨[],.b (.bool b),.no⟩
 | .neq=>some ⟨[],.b (.bool (!b)),.no⟩
 | _=>none
def aPl:Operand→Bool
 | .const _=>true
 | _=>false
def aTw (T:Tab) (get:Nat→Option Ob) (op:BinOp) (t:TypeId) (y:Operand) (a b:LV):Option Out :=
 match b with
 | .k (.pointer none)=>match T.get t with
  | some { desc:=.pointer _,.. }=>match a with
   | .k (.pointer none)=>eqlO op true
   | .ptr id ver _=>match get id with
    | some ⟨ver',_⟩=>bif Nat.beq ver ver' then eqlO op false else none
    | none=>none
   | .vp _ _ _=>eqlO op false
   | _=>none
  | _=>none
 | .k .nilIface=>match T.get t with
  | some { desc:=.interface _,.. }=>match a with
   | .k .nilIface=>bif aPl y then eqlO op true else none
   | .ifc _ _=>eqlO op false
   | _=>none
  | _=>none
 | _=>none
def aDM:TypeDesc→Bool
 | .interface _=>true
 | _=>false
def aAx (T:Tab) (ρ:Operand→LV) (get:Nat→Option Ob) (fresh:Nat):Op→Option Out
 | .move x | .assign x=>some ⟨[],ρ x,.no⟩
 | .alloc e=>match T.get e with
  | some { desc:=.array n el,zero:=some z,size:=size,.. }=>match T.get el with
   | some { size:=sz,.. }=>bif (zeroCells z).all LV.shut&&Nat.ble 1 sz&&Nat.beq (n*sz) size&&Nat.beq (zeroCells z).length size&&Nat.ble n 1000 then
    some ⟨[],.junk,.newc (.lit ((List.range n).map fun j=>((zeroCells z).drop (j*sz)).take sz)) (fun m=>.row m e sz) fun _=>.ptr fresh 1 0⟩ else none
   | _=>none
  | some { zero:=some z,.. }=>some ⟨[],.ptr fresh 1 0,.new (.box (zeroCells z) e)⟩
  | _=>none
 | .box e x=>bif (ρ x).cells.all LV.one then some ⟨[],.ptr fresh 1 0,.new (.box (ρ x).cells e)⟩ else none
 | .build t parts=>match T.get t with
  | some { desc:=.struct fs,zero:=some z,.. }=>match aGC T fs.toList with
   | some pl=>match aLH (fun i=>pl[i]?) (zeroCells z) (parts.toList.map fun (i,x)=>(i,ρ x)) with
    | some cs=>some ⟨[],.agg cs,.no⟩
    | none=>none
   | none=>none
  | some { desc:=.array _ el,zero:=some z,.. }=>match T.get el with
   | some { size:=sz,.. }=>match aLH (fun i=>some (i*sz,sz)) (zeroCells z) (parts.toList.map fun (i,x)=>(i,ρ x)) with
    | some cs=>some ⟨[],.agg cs,.no⟩
    | none=>none
   | none=>none
  | _=>none
 | .buildSlice t len parts=>match T.get t with
  | some { desc:=.slice el,.. }=>match T.get el with
   | some { zero:=some z,size:=sz,.. } =>
    match aLH (fun i=>some (i*sz,sz)) ((List.range len).flatMap fun _=>zeroCells z) (parts.toList.map fun (i,x)=>(i,ρ x)) with
    | some cs=>bif cs.all LV.shut&&Nat.ble 1 sz&&Nat.ble (len*sz) 16777216&&Nat.beq z.cells.size sz&&Nat.beq cs.length (len*sz) then
     some ⟨[],.junk,.newc (.lit ((List.range len).map fun j=>(cs.drop (j*sz)).take sz)) (fun m=>.row m el sz) fun m=>.rs fresh 1 (.int 0) (.clen m)⟩ else none
    | none=>none
   | _=>none
  | _=>none
 | .load t a=>match T.get t,ρ a with
  | some ti,.ptr id ver off=>match get id with
   | some ⟨ver',.box cs _⟩=>bif Nat.beq ver ver' then rdB (aggT ti.desc) ti.size cs off else none
   | _=>none
  | some ti,.rp id ver i f=>match get id with
   | some ⟨ver',.row c _ _⟩=>bif Nat.beq ver ver' then rdE T t (aggT ti.desc) ti.size c i f else none
   | _=>none
  | some ti,.vp c i f=>rdE T t (aggT ti.desc) ti.size c i f
  | _,_=>none
 | .store t a x=>match T.get t,ρ a with
  | some ti,.ptr id ver off=>match get id with
   | some ⟨ver',.box cs e⟩=>bif Nat.beq ver ver'&&(ρ x).cells.all LV.one&&Nat.beq (ρ x).cells.length ti.size&&Nat.ble (off+ti.size) cs.length then
    some ⟨[],.tup [],.upd id ⟨ver',.box (putL cs off (ρ x).cells) e⟩⟩ else none
   | some ⟨ver',.row c e sz⟩=>match ti.desc with
    | .array n _=>bif Nat.beq ver ver'&&(ρ x).cells.all LV.shut&&Nat.beq (ρ x).cells.length ti.size&&Nat.beq (n*sz) ti.size&&Nat.beq off 0&&Nat.ble n 1000 then
     some ⟨[.le (.int n) (.clen c),.le (.clen c) (.int n)],.junk,.updc (.lit ((List.range n).map fun j=>((ρ x).cells.drop (j*sz)).take sz)) id (fun m=>⟨ver',.row m e sz⟩) fun _=>.tup []⟩ else none
    | _=>none
   | _=>none
  | some ti,.rp id ver i f=>match get id with
   | some ⟨ver',.row c e sz⟩=>bif Nat.beq ver ver'&&(ρ x).cells.all LV.shut&&Nat.beq (ρ x).cells.length ti.size&&Nat.ble (f+ti.size) sz then
    some ⟨[.ix i (.clen c)],.junk,.updc (.set c i f (ρ x).cells) id (fun m=>⟨ver',.row m e sz⟩) fun _=>.tup []⟩ else none
   | _=>none
  | _,_=>none
 | .binOp op t x y _=>match aTw T get op t y (ρ x) (ρ y) with
  | some out=>some out
  | none=>binO T op t (ρ x) (ρ y)
 | .makeInterface t x=>match T.get t with
  | some ti=>bif aDM ti.desc then none else some ⟨[],.ifc t (ρ x),.no⟩
  | none=>none
 | .typeAssert x _ at_ ok=>match T.get at_ with
  | some { desc:=d,zero:=some z,.. }=>bif aDM d then none else match ρ x with
   | .ifc t v=>bif Nat.beq t at_ then some ⟨[],(bif ok then .tup [v,.b (.bool true)] else v),.no⟩ else bif ok then some ⟨[],.tup [lvOf z,.b (.bool false)],.no⟩ else none
   | .k .nilIface=>bif ok then some ⟨[],.tup [lvOf z,.b (.bool false)],.no⟩ else none
   | _=>none
  | _=>none
 | .unOp op _ x=>match op,ρ x with
  | .not,.b b=>some ⟨[],.b (aFu b),.no⟩
  | .neg,.i k n=>some ⟨[],.i k (mkWr k (aHQ (· - ·) .sub (.int 0) n)),.no⟩
  | _,_=>none
 | .fieldAddr t x f=>match T.get t with
  | some { desc:=.struct fs,.. }=>match fs[f]? with
   | some fl=>match T.get fl.type with
    | some { size:=_+1,.. }=>match ρ x with
     | .ptr id ver off=>match get id with
      | some ⟨ver',_⟩=>bif Nat.beq ver ver' then some ⟨[],.ptr id ver (off+fl.offset),.no⟩ else none
      | none=>none
     | .rp id ver i off=>match get id with
      | some ⟨ver',_⟩=>bif Nat.beq ver ver' then some ⟨[],.rp id ver i (off+fl.offset),.no⟩ else none
      | none=>none
     | .vp c i off=>some ⟨[],.vp c i (off+fl.offset),.no⟩
     | _=>none
    | _=>none
   | none=>none
  | _=>none
 | .field t x f=>match T.get t,ρ x with
  | some { desc:=.struct fs,.. },.agg cs=>match fs[f]? with
   | some fl=>match T.get fl.type with
    | some ti=>rdB (aggT ti.desc) ti.size cs fl.offset
    | none=>none
   | none=>none
  | _,_=>none
 | .indexAddr t x ix=>match T.get t,intE (ρ ix) with
  | some { desc:=.slice el,.. },some e=>match T.get el with
   | some { size:=es,.. }=>match ρ x with
    | .rs id ver o n=>match get id with
     | some ⟨ver',.row _ _ sz⟩=>bif Nat.beq ver ver'&&Nat.beq sz es then some ⟨[.ix e n],.rp id ver (aIl o e) 0,.no⟩ else none
     | _=>none
    | .vs c=>some ⟨[.ix e (.clen c),.szAll c es],.vp c e 0,.no⟩
    | _=>none
   | none=>none
  | some { desc:=.array n el,.. },some e=>match T.get el with
   | some { size:=es,.. }=>match ρ x with
    | .ptr id ver 0=>match get id with
     | some ⟨ver',.row _ _ sz⟩=>bif Nat.beq ver ver'&&Nat.beq sz es then some ⟨[.ix e (.int n)],.rp id ver e 0,.no⟩ else none
     | _=>none
    | _=>none
   | none=>none
  | _,_=>none
 | .index t x ix=>match T.get t,intE (ρ ix),ρ x with
  | some { desc:=.string,.. },some e,.s s=>some ⟨[.ix e (aG6 s)],.i .u8 (.byte s e),.no⟩
  | some { desc:=.array n el,.. },some (.int (.ofNat j)),.agg cs=>match T.get el with
   | some ti=>bif Nat.blt j n then rdB (aggT ti.desc) ti.size cs (j*ti.size) else none
   | none=>none
  | some { desc:=.array n el,.. },some e,.agg cs=>match T.get el with
   | some ti=>match ixL cs e ti.size n 0 with
    | some l=>match aHR (aggT ti.desc) l with
     | some v=>some ⟨[.ix e (.int n)],v,.no⟩
     | none=>none
    | none=>none
   | none=>none
  | _,_,_=>none
 | .slice t x lo hi mx=>match T.get t,ρ x,mx with
  | some { desc:=.string,.. },.s s,none=>match optE (.int 0) (lo.map ρ),optE (aG6 s) (hi.map ρ) with
   | some a,some b=>some ⟨[.cuts a b (aG6 s)],.s (.cut s a b),.no⟩
   | _,_=>none
  | some { desc:=.slice el,.. },.vs c,none=>match T.get el,optE (.int 0) (lo.map ρ),optE (.clen c) (hi.map ρ) with
   | some { size:=es,.. },some a,some b=>some ⟨[.cuts a b (.clen c),.szAll c es],.vs (cutC hi.isSome c a b),.no⟩
   | _,_,_=>none
  | some { desc:=.slice el,.. },.vs c,some y=>match T.get el,optE (.int 0) (lo.map ρ),hi.map ρ,intE (ρ y) with
   | some { size:=es,.. },some a,some hv,some m=>match intE hv with
    | some b=>some ⟨[.cuts a b m,.le m (.clen c),.szAll c es],.vs (cutC true c a b),.no⟩
    | none=>none
   | _,_,_,_=>none
  | some { desc:=.slice el,.. },.rs id ver o n,none=>match T.get el,get id,optE (.int 0) (lo.map ρ),optE n (hi.map ρ) with
   | some { size:=es,.. },some ⟨ver',.row _ _ sz⟩,some a,some b=>bif Nat.beq ver ver'&&Nat.beq sz es then some ⟨[.cuts a b n],.rs id ver (aIl o a) (aPq b a),.no⟩ else none
   | _,_,_,_=>none
  | some { desc:=.slice el,.. },.k (.slice none 0 0),none=>match T.get el,optE (.int 0) (lo.map ρ),optE (.int 0) (hi.map ρ) with
   | some _,some a,some b=>some ⟨[.cuts a b (.int 0)],.k (.slice none 0 0),.no⟩
   | _,_,_=>none
  | some { desc:=.array n el,.. },.ptr id ver 0,none=>match T.get el,get id,optE (.int 0) (lo.map ρ),optE (.int n) (hi.map ρ) with
   | some { size:=es,.. },some ⟨ver',.row c _ sz⟩,some a,some b=>bif Nat.beq ver ver'&&Nat.beq sz es then some ⟨[.cuts a b (.int n),.le (.int n) (.clen c)],.rs id ver a (aPq b a),.no⟩ else none
   | _,_,_,_=>none
  | _,_,_=>none
 | .extract x k=>match ρ x with
  | .tup vs=>match atL vs k with
   | some v=>some ⟨[],v,.no⟩
   | none=>none
  | _=>none
 | .convert s d x=>match T.get s,T.get d with
  | some ts,some td=>match td.desc,ρ x with
   | .int k,.i _ n=>some ⟨[],.i k (mkWr k n),.no⟩
   | .string,.s e=>some ⟨[],.s e,.no⟩
   | .slice el,.s e=>match ts.desc,T.get el with
    | .string,some { desc:=.int .u8,size:=1,.. }=>some ⟨[],.junk,.newc (.bytes e) (fun m=>.row m el 1) fun m=>.rs fresh 1 (.int 0) (.clen m)⟩
    | _,_=>none
   | .string,v=>match ts.desc with
    | .slice el=>match T.get el,aA9 get v with
     | some { desc:=.int .u8,.. },some (c,ns)=>some ⟨ns++[.bytesC c],.s (.sOf c),.no⟩
     | _,_=>none
    | _=>none
   | _,_=>none
  | _,_=>none
 | .makeSlice t l c=>match T.get t,intE (ρ l),intE (ρ c) with
  | some { desc:=.slice el,.. },some l,some c=>match T.get el with
   | some { zero:=some z,size:=sz,bytes:=by_,.. }=>bif Nat.ble 1 sz&&(zeroCells z).all LV.shut&&Nat.beq (zeroCells z).length sz then
    some ⟨[.cuts l l c,.fits c by_],.junk,.newc (.rep l (zeroCells z)) (fun m=>.row m el sz) fun m=>.rs fresh 1 (.int 0) (.clen m)⟩ else none
   | _=>none
  | _,_,_=>none
 | .nilCheck x=>match ρ x with
  | .ptr id ver off=>match get id with
   | some ⟨ver',_⟩=>bif Nat.beq ver ver' then some ⟨[],.ptr id ver off,.no⟩ else none
   | none=>none
  | .vp c i f=>some ⟨[],.vp c i f,.no⟩
  | _=>none
 | .makeFunc fn first captured=>bif first.isEmpty&&captured.isEmpty then some ⟨[],.k (.func fn #[] #[]),.no⟩ else match fn,first.toList,captured.toList with
  | .func f,[],[x]=>bif T.cap f then some ⟨[],.fn f [ρ x],.no⟩ else match ρ x with
   | .ptr id ver 0=>match get id with
    | some ⟨ver',.box cs e⟩=>bif Nat.beq ver ver'&&cs.all LV.shut then
     some ⟨[],.junk,.updc (.lit [cs]) id (fun _=>⟨ver+1,.row (.str []) e 1⟩) fun m=>.fn f [.vp m (.int 0) 0]⟩ else none
    | _=>none
   | .vp c i k=>some ⟨[],.fn f [.vp c i k],.no⟩
   | _=>none
  | .func f,[],xs=>bif T.cap f then some ⟨[],.fn f (xs.map ρ),.no⟩ else none
  | _,_,_=>none
 | .makeMap t none=>match T.get t with
  | some { desc:=.map k e,.. }=>match T.get k,T.get e with
   | some { desc:=.string,.. },some te=>match aVz te.desc with
    | 0=>none
    | vk+1=>some ⟨[],.mp fresh 1,.new (.mp (.str []) (vk+1))⟩
   | _,_=>none
  | _=>none
 | .lookup t m k ok=>match T.get t,ρ m,ρ k with
  | some { desc:=.map kt e,.. },.mp id ver,.s ke=>match get id,T.get kt,T.get e with
   | some ⟨ver',.mp c vk⟩,some { desc:=.string,.. },some { zero:=some z,.. }=>match lvK vk (.cell c (.mpos c ke) 1) with
    | some v=>match pk (.lt (.mpos c ke) (.clen c)) v (aFO z) with
     | some r=>bif Nat.beq ver ver' then some ⟨[],(bif ok then .tup [r,.b (.lt (.mpos c ke) (.clen c))] else r),.no⟩ else none
     | none=>none
    | none=>none
   | _,_,_=>none
  | _,_,_=>none
 | .mapUpdate t m k x=>match T.get t,ρ m,ρ k with
  | some { desc:=.map kt e,.. },.mp id ver,.s ke=>match get id,T.get kt with
   | some ⟨ver',.mp c vk⟩,some { desc:=.string,.. }=>bif Nat.beq ver ver'&&Nat.beq (aQO (ρ x)) vk&&(ρ x).shut&&Nat.ble 1 vk then
    some ⟨[],.junk,.updc (.mput c ke (ρ x)) id (fun m=>⟨ver',.mp m vk⟩) fun _=>.tup []⟩ else none
   | _,_=>none
  | _,_,_=>none
 | .range t x=>match T.get t,ρ x with
  | some { desc:=.string,.. },.s e=>some ⟨[],.ptr fresh 1 0,.new (.iter e (.int 0))⟩
  | _,_=>none
 | .call { callee:=.builtin b,args,argTypes }=>match b,args.toList,argTypes.toList with
  | .len,[x],[t]=>match T.get t with
   | some ti=>match ti.desc with
    | .slice _=>match lenS get (ρ x) with
     | some e=>some ⟨[],.i .i64 e,.no⟩
     | none=>none
    | .string=>match ρ x with
     | .s e=>some ⟨[],.i .i64 (aG6 e),.no⟩
     | _=>none
    | _=>none
   | none=>none
  | .append,[s,x],[st,xt]=>match aUb T st,T.get xt with
   | some el,some tx=>match T.get el with
    | some { size:=sz,bytes:=by_,zero:=some z,.. }=>bif aBs tx.desc&&Nat.ble 1 sz&&Nat.beq z.cells.size sz then match ρ s with
     | .rs id ver (.int 0) n=>match get id with
      | some ⟨ver',.row c el' sz'⟩=>bif Nat.beq ver ver'&&Nat.beq el el'&&Nat.beq sz sz' then match aNf get sz (aJu c n) (ρ x) with
       | some (d,m,ns)=>some ⟨(bif aBH c n then [] else [.le n (.clen c)])++ns++[.fits (aNA n m) by_],.junk,.updc d id (fun m=>⟨ver+1,.row m el sz⟩) fun m=>.rs id (ver+1) (.int 0) (.clen m)⟩
       | none=>none
       else none
      | _=>none
     | .k (.slice none 0 0)=>match aNf get sz (.str []) (ρ x) with
      | some (d,m,ns)=>some ⟨ns++[.fits m by_],.junk,.newc d (fun m=>.row m el sz) fun m=>.rs fresh 1 (.int 0) (.clen m)⟩
      | none=>none
     | _=>none
     else none
    | _=>none
   | _,_=>none
  | .min,[x,y],_=>match ρ x,ρ y with
   | .i k a,.i k' b=>bif kEq k k' then some ⟨[],.i k (aJj (aGi (fun x y=>decide (x<y)) .lt b a) b a),.no⟩ else none
   | _,_=>none
  | .max,[x,y],_=>match ρ x,ρ y with
   | .i k a,.i k' b=>bif kEq k k' then some ⟨[],.i k (aJj (aGi (fun x y=>decide (x<y)) .lt a b) b a),.no⟩ else none
   | _,_=>none
  | _,_,_=>none
 | _=>none
def aHg:List Nat→Nat→Option (List LV×Nat)
 | [],n=>some ([],n)
 | k::ks,n=>match lvK k (.var n),aHg ks (n+1) with
  | some v,some (r,m)=>some (v::r,m)
  | _,_=>none
def aME (T:Tab) (t:TypeId) (n:Nat):Option (LV×Nat) :=
 match T.get t,aQG T 8 t with
 | some ti,some ks=>match aHg ks n with
  | some (l,n)=>match aHR (aggT ti.desc) l with
   | some v=>some (v,n)
   | none=>none
  | none=>none
 | _,_=>none
def aGK (T:Tab):List TypeId→Nat→Option (List LV×Nat)
 | [],n=>some ([],n)
 | t::ts,n=>match aME T t n with
  | some (v,n)=>match aGK T ts n with
   | some (r,n)=>some (v::r,n)
   | none=>none
  | none=>none
def aFZ (T:Tab) (t:TypeId) (n:Nat):Option (LV×Nat) :=
 match T.get t with
 | some { desc:=.tuple ts,.. }=>match aGK T ts.toList n with
  | some (l,n)=>some (.tup l,n)
  | none=>none
 | _=>aME T t n
inductive Ex where
 | normal | ret
inductive Srt where
 | i | b | s | l
 deriving DecidableEq,Inhabited
inductive Kont where
 | code (c:Code)
 | blk (id:Nat)
 | mark (m n0:Nat) (H:St)
structure Md where
 i:Nat
 e:TypeId
 sz:Nat
 back:Bool
inductive Tr where
 | done (e:Ex) (S:St)
 | br (c:E) (t f:Tr)
 | need (g:E) (p:Need) (t:Tr)
 | letC (d:DC) (t:Tr)
 | call (md:Option Md) (g:E) (f:FuncId) (args:List LV) (shape:LV) (n m:Nat) (t:Tr)
 | nil (c:E) (t f:Tr)
 | loop (m:Nat) (θ:List (Srt×E)) (t:Tr)
 | again (m:Nat) (θ:List (Srt×E))
 | stop (S:St) (m:Nat)
 | fail (why:Nat)
def aEU:LV→Bool
 | .vp _ _ _=>true
 | v=>v.shut
def aDz (ρ:Operand→LV):Op→Option (FuncId×List LV)
 | .call { callee:=.value x,args,.. }=>match ρ x with
  | .k (.func (.func f) a b)=>bif a.isEmpty&&b.isEmpty then some (f,args.toList.map ρ) else none
  | .fn f caps=>bif caps.all aEU then some (f,args.toList.map ρ++caps) else none
  | _=>none
 | _=>none
def aGR (T:Tab) (ρ:Operand→LV):Op→Option (FuncId×List LV)
 | .call { callee:=.invoke x s,args,.. }=>match ρ x with
  | .ifc t v=>match T.meth t s with
   | some f=>some (f,v::args.toList.map ρ)
   | none=>none
  | _=>none
 | .call { callee:=.value x,args,.. }=>match ρ x with
  | .k (.func (.func f) a b)=>bif a.isEmpty&&b.isEmpty then some (f,args.toList.map ρ) else none
  | .fn f caps=>some (f,args.toList.map ρ++caps)
  | _=>none
 | _=>none
def aOC:Op→Option Operand
 | .next it true=>some it
 | _=>none
def aPu (want:Bool) (e:E):E:=bif want then e else aFu e
def needs (g:E):List Need→Tr→Tr
 | [],t=>t
 | p::r,t=>.need g p (needs g r t)
def aHB (n:Nat):List Ob→Bool
 | []=>true
 | o::r=>o.o.ok n&&aHB n r
def St.ok (S:St):Bool:=LVs.ok S.n S.F&&(aHB S.n S.L&&LVs.ok S.n S.G)
def effs (S:St) (v:LV) (e:Eff) (k:St→LV→Tr):Tr :=
 match e with
 | .no=>k S v
 | .new o=>k { S with L:=S.L++[⟨1,o⟩] } v
 | .upd i o=>k { S with L:=setO S.L i o } v
 | .newc d o v=>bif S.ok&&d.ok S.n then .letC d (k { S with L:=S.L++[⟨1,o (.var S.n)⟩],n:=S.n+1 } (v (.var S.n))) else .fail 9
 | .updc d i o v=>bif S.ok&&d.ok S.n then .letC d (k { S with L:=setO S.L i (o (.var S.n)),n:=S.n+1 } (v (.var S.n))) else .fail 9
def LV.flat:LV→Bool
 | .b _ | .i _ _ | .s _=>true
 | _=>false
def aOf:LV→Bool
 | .agg cs=>cs.all LV.flat
 | v=>v.flat
def aCx:LV→Bool
 | .tup vs=>vs.all aOf
 | v=>aOf v
def isRs:LV→Bool
 | .rs ..=>true
 | _=>false
def aggV:LV→Bool
 | .agg _ | .vp _ _ _ | .fn _ _=>true
 | _=>false
def nilV:LV→LV
 | .k (.slice none 0 0)=>.vs (.str [])
 | v=>v
def aB3 (get:Nat→Option Ob) (v:LV):Option (LV×List Need) :=
 match v with
 | .k (.slice none 0 0)=>some (.vs (.str []),[])
 | .agg cs=>bif cs.all LV.shut then some (.agg (cs.map nilV),[]) else none
 | .vp _ _ _=>some (v,[])
 | .fn _ cs=>bif cs.all aEU then some (v,[]) else none
 | .rs ..=>match aA9 get v with
  | some (c,ns)=>some (.vs c,ns)
  | none=>none
 | v=>bif LV.shut v then some (v,[]) else none
def aA0 (get:Nat→Option Ob):List LV→Option (List LV×List Need)
 | []=>some ([],[])
 | v::r=>match aB3 get v,aA0 get r with
  | some (a,ns),some (b,ms)=>some (a::b,ns++ms)
  | _,_=>none
def rsId:List LV→Option Nat
 | []=>none
 | .rs id _ _ _::r=>bif r.any isRs then none else some id
 | _::r=>rsId r
def frz (get:Nat→Option Ob) (vs:List LV):Option (Nat×Ob) :=
 match rsId vs with
 | some id=>match get id with
  | some ⟨ver,.row _ e sz⟩=>some (id,⟨ver+1,.row (.str []) e sz⟩)
  | _=>none
 | none=>none
def fz (L:List Ob) (i:Nat):LV→LV
 | .rs id ver o n=>match getO L i with
  | some ⟨ver',.row c _ _⟩=>bif Nat.beq id i&&Nat.beq ver ver'&&aCF o&&aBH c n then .vs c else .rs id ver o n
  | _=>.rs id ver o n
 | v=>v
def aDY (S:St) (i:Nat) (ob:Ob):St:={ S with F:=S.F.map (fz S.L i),L:=setO S.L i ob }
def aFI (S:St) (c:Operand) (b:Bool):St :=
 match c with
 | .tmp t=>{ S with F:=setL S.F t (.b (.bool b)) }
 | _=>S
def aH2:Op→Option (Operand×Operand×Operand)
 | .pick c a b=>some (c,a,b)
 | _=>none
def isNo:Eff→Bool
 | .no=>true
 | _=>false
def rsAt:List LV→Nat→Option (Nat×Nat×Nat×E×E)
 | [],_=>none
 | .rs id ver o n::r,i=>bif r.any isRs then none else some (i,id,ver,o,n)
 | _::r,i=>rsAt r (i+1)
structure Mc where
 md:Md
 id:Nat
 ns:List Need
 as_:List LV
 ob:E→Ob
 v:E→LV
def aOF (T:Tab) (t:TypeId) (f:FuncId) (get:Nat→Option Ob) (args:List LV):Option Mc :=
 bif Nat.beq t 0||T.back f then match rsAt args 0 with
  | some (i,id,ver,.int 0,n)=>match get id,aA0 get args with
   | some ⟨ver',.row c e sz⟩,some (as_,ns)=>bif Nat.beq ver ver'&&(!T.back f||Nat.beq i 0) then
    some { md:=⟨i,e,sz,T.back f⟩,id:=id,ns:=(bif aBH c n then [] else [.le n (.clen c),.le (.clen c) n])++ns,as_:=as_
           ob:=fun m=>⟨bif T.back f then ver+1 else ver,.row m e sz⟩,v:=fun m=>bif T.back f then .rs id (ver+1) (.int 0) (.clen m) else .tup [] } else none
   | _,_=>none
  | _=>none
 else none
def aUx (T:Tab):List LV→List TypeId→Option (TypeId×Nat)
 | .k (.slice none 0 0)::_,t::_=>match aUb T t with
  | some e=>match T.get e with
   | some ti=>some (e,ti.size)
   | none=>none
  | none=>none
 | _::r,_::ts=>aUx T r ts
 | _,_=>none
def aU3 (T:Tab) (f:FuncId) (args:List LV):Op→Option (TypeId×Nat)
 | .call c=>bif T.back f then aUx T args c.argTypes.toList else none
 | _=>none
def aTu:List Need:=[.le (.int 1) (.int 0)]
def aGN:List LV→Nat→Option (Nat×LV)
 | [],_=>none
 | .rs id ver o n::_,k=>some (k,.rs id ver o n)
 | _::r,k=>aGN r (k+1)
def aGD (t:Tmp):Nat→St→Option (St×List Need)
 | 0,S=>some (S,[])
 | fuel+1,S=>match getL S.F t with
  | .agg cs=>match aGN cs 0 with
   | none=>some (S,[])
   | some (k,v)=>match aA9 (getO S.L) v,frz (getO S.L) [v] with
    | some (c,ns),some (i,ob)=>match aGD t fuel { S with F:=setL S.F t (.agg (setL cs k (.vs c))),L:=setO S.L i ob } with
     | some (S',ms)=>some (S',ns++ms)
     | none=>none
    | _,_=>none
  | _=>none
def aPF (t:Tmp) (S:St):Option (St×List Need) :=
 match getL S.F t with
 | .rs id ver o n=>match aA9 (getO S.L) (.rs id ver o n),frz (getO S.L) [.rs id ver o n] with
  | some (c,ns),some (i,ob)=>some ({ aDY S i ob with F:=setL (aDY S i ob).F t (.vs c) },ns)
  | _,_=>none
 | .agg _=>aGD t 8 S
 | _=>some (S,[])
def aEL:List Tmp→St→Option (St×List Need)
 | [],S=>some (S,[])
 | t::r,S=>match aPF t S with
  | some (S',ns)=>match aEL r S' with
   | some (S'',ms)=>some (S'',ns++ms)
   | none=>none
  | none=>none
def aIn:List Operand→List Tmp
 | []=>[]
 | .tmp t::r=>t::aIn r
 | _::r=>aIn r
def aSR:Op→List Tmp
 | .buildSlice _ _ parts=>aIn (parts.toList.map (·.2))
 | .store _ _ x=>aIn [x]
 | .mapUpdate _ _ _ x=>aIn [x]
 | .call c=>aIn c.args.toList
 | _=>[]
def aE5 (T:Tab) (o:Oper) (S:St) (k:St→Tr):Tr :=
 match aEL (aSR o.op) S with
 | some (S',ns0)=>match aDz S'.ev o.op with
  | some (f',args')=>match aA0 (getO S'.L) args',aFZ T o.type S'.n with
   | some (as',ns'),some (sh',m')=>bif S'.ok && !args'.any isRs then needs (.bool true) ns0 (needs (.bool true) ns' (.call none (.bool true) f' as' sh' S'.n m' (k ({ S' with n:=m' }.put o.dst sh')))) else .fail 9
   | _,_=>.fail 2
  | none=>.fail 9
 | none=>.fail 9
def aRT (T:Tab) (o:Oper) (S:St) (k:St→Tr):Tr :=
 match aDz S.ev o.op with
 | some (f,args)=>match aOF T o.type f (getO S.L) args with
  | some M=>bif S.ok&&aAU S.n M.ns&&LVs.ok S.n M.as_ then needs (.bool true) M.ns (.call (some M.md) (.bool true) f M.as_ (.vs (.var S.n)) S.n (S.n+1) (k ({ S with n:=S.n+1,L:=setO S.L M.id (M.ob (.var S.n)) }.put o.dst (M.v (.var S.n))))) else .fail 9
  | none=>match aU3 T f args o.op with
  | some (e,sz)=>needs (.bool true) aTu (.letC (.bytes (.str [])) (k (St.put { S with n:=S.n+1,L:=S.L++[⟨1,.row (.var S.n) e sz⟩] } o.dst (.rs S.L.length 1 (.int 0) (.clen (.var S.n))))))
  | none=>match aA0 (getO S.L) args,aFZ T o.type S.n with
   | some (as_,ns),some (sh,m)=>bif !S.ok then .fail 9 else bif args.any isRs && !aCx sh then match frz (getO S.L) args with
    | some (i,ob)=>needs (.bool true) ns (.call none (.bool true) f as_ sh S.n m (k ({ aDY S i ob with n:=m }.put o.dst sh)))
    | none=>aE5 T o S k
    else needs (.bool true) ns (.call none (.bool true) f as_ sh S.n m (k ({ S with n:=m }.put o.dst sh)))
   | _,_=>aE5 T o S k
 | none=>match aOC o.op with
  | some it=>match S.ev it with
   | .ptr id ver 0=>match getO S.L id with
    | some ⟨ver',.iter s p⟩=>bif Nat.beq ver ver' then
     .br (.lt p (aG6 s)) (k ({ S with L:=setO S.L id ⟨ver',.iter s (.add p (.runeW s p))⟩ }.put o.dst (.tup [.b (.bool true),.i .i64 p,.i .i32 (.rune s p)])))
      (k (S.put o.dst (.tup [.b (.bool false)])))
     else .fail 4
    | _=>.fail 4
   | _=>.fail 4
  | none=>match aH2 o.op with
   | some (c,a,b)=>match S.ev c with
    | .b t=>match pk t (aBw t (S.ev a)) (aBw (aFu t) (S.ev b)) with
     | some v=>k (S.put o.dst v)
     | none=>.fail 10
    | _=>.fail 10
   | none=>match aAx T S.ev (getO S.L) S.L.length o.op with
    | some ⟨ns,v,e⟩=>bif isNo e||aAU S.n ns then needs (.bool true) ns (effs S v e fun S' v=>k (S'.put o.dst v)) else .fail 9
    | none=>match aEL (aSR o.op) S with
     | some (S',ns0)=>match aAx T S'.ev (getO S'.L) S'.L.length o.op with
      | some ⟨ns,v,e⟩=>bif isNo e||aAU S'.n ns then needs (.bool true) ns0 (needs (.bool true) ns (effs S' v e fun S' v=>k (S'.put o.dst v))) else .fail 9
      | none=>.fail 1000
     | none=>.fail 1001
def runG (T:Tab) (o:Oper) (g:E) (S:St) (k:St→Tr) (other:Unit→Tr):Tr :=
 match aDz (fun x=>aBw g (S.ev x)) o.op with
 | some (f,args)=>match aOF T o.type f (getO S.L) args with
  | some _=>other ()
  | none=>(match aA0 (getO S.L) args,aFZ T o.type S.n with
  | some (as_,ns),some (sh,m)=>bif !S.ok || !g.ok S.n||(args.any isRs && !aCx sh) then .fail 9 else needs g ns (.call none g f as_ sh S.n m (k ({ S with n:=m }.put o.dst (.g g sh))))
  | _,_=>other ())
 | none=>match aH2 o.op with
  | some (c,a,b)=>match aBw g (S.ev c) with
   | .b t=>match pk t (aBw (aKU g t) (S.ev a)) (aBw (aKU g (aFu t)) (S.ev b)) with
    | some v=>k (S.put o.dst (.g g v))
    | none=>.fail 10
   | _=>.fail 10
  | none=>match aAx T (fun x=>aBw g (S.ev x)) (getO S.L) S.L.length o.op with
   | some ⟨ns,v,e⟩=>bif isNo e then needs g ns (k (S.put o.dst (.g g v))) else other ()
   | none=>other ()
def aGb (ops:Array Oper) (F:List LV):Option (Nat×Bool)→Option E
 | none=>some (.bool true)
 | some (j,want)=>match (ops[j]?).bind (·.dst) with
  | none=>none
  | some d=>match getL F d with
   | .b e=>some (aPu want e)
   | .g g (.b e)=>some (aKU g (aPu want e))
   | .tup []=>some (.bool false)
   | _=>none
def aNj (ops:Array Oper) (S:St):Option (Nat×Bool)→St
 | some (j,want)=>match (ops[j]?).bind (·.dst) with
  | some d=>{ S with F:=setL S.F d (.b (.bool want)) }
  | none=>S
 | none=>S
def ung (g:E):LV→LV
 | .g h v=>bif aBV g h then v else .g h v
 | v=>v
def ungS (g:E) (S:St):St:={ S with F:=S.F.map (ung g) }
def aMB (ops:Array Oper) (S:St):Option (Nat×Bool)→St
 | some (j,want)=>match (ops[j]?).bind (·.dst) with
  | some d=>match getL S.F d with
   | .b _=>{ S with F:=setL S.F d (.b (.bool (!want))) }
   | _=>S
  | none=>S
 | none=>S
def runI (T:Tab) (inl:Oper→St→(St→Tr)→Option Tr) (o:Oper) (S:St) (k:St→Tr):Tr :=
 match inl o S k with
 | some t=>t
 | none=>aRT T o S k
def aDX (T:Tab) (inl:Oper→St→(St→Tr)→Option Tr) (ops:Array Oper):List Oper→St→(St→Tr)→Tr
 | [],S,k=>k S
 | o::rest,S,k =>
  match aGb ops S.F o.guard with
  | none=>.fail 3
  | some (.bool true)=>runI T inl o S fun S=>aDX T inl ops rest S k
  | some (.bool false)=>aDX T inl ops rest (S.put o.dst (.tup [])) k
  | some g=>match inl o (aNj ops (ungS g S) o.guard) fun S=>aDX T inl ops rest S k with
   | some t=>.br g t (aDX T inl ops rest ((aMB ops S o.guard).put o.dst (.tup [])) k)
   | none=>runG T o g S (fun S=>aDX T inl ops rest S k) fun _=>(.br g (aRT T o (aNj ops (ungS g S) o.guard) fun S=>aDX T inl ops rest S k) (aDX T inl ops rest ((aMB ops S o.guard).put o.dst (.tup [])) k))
def aJs (T:Tab) (S:St):ResultVar→Option (LV×List Need)
 | .tmp t=>some (getL S.F t,[])
 | .cell a t=>match aAx T S.ev (getO S.L) 0 (.load t (.tmp a)) with
  | some ⟨ns,v,_⟩=>some (v,ns)
  | none=>none
def aHi (T:Tab) (S:St):List ResultVar→Option (List LV×List Need)
 | []=>some ([],[])
 | x::r=>match aJs T S x,aHi T S r with
  | some (v,ns),some (vs,ms)=>some (v::vs,ns++ms)
  | _,_=>none
def resV:List LV→LV
 | [v]=>v
 | vs=>.tup vs
def aM7 (T:Tab) (B:FuncId→Option Func) (ρ:Operand→LV) (op:Op):Option (FuncId×Func×List LV) :=
 match aGR T ρ op with
 | some (f,args)=>match B f with
  | some fn=>some (f,fn,args)
  | none=>none
 | none=>none
def aS7 (fn:Func) (as_:List LV) (S:St):St:={ F:=as_++List.replicate (fn.ntmps - as_.length) (.tup []),L:=S.L,n:=S.n,G:=S.F++S.G }
def popS (k:Nat) (dst:Option Tmp) (v:LV) (S:St):St:=({ S with F:=S.G.take k,G:=S.G.drop k }:St).put dst v
def aHe:List ResultVar→Nat
 | []=>0
 | .tmp t::r=>Nat.lor (Nat.shiftLeft 1 t) (aHe r)
 | .cell a _::r=>Nat.lor (Nat.shiftLeft 1 a) (aHe r)
def aRk (T:Tab) (B:FuncId→Option Func) (rn:Nat→(Ex→St→Tr)→Code→St→Tr) (o:Oper) (S:St) (k:St→Tr):Option Tr :=
 match aM7 T B S.ev o.op with
 | none=>none
 | some (_,fn,args)=>match fn.body with
  | none=>none
  | some c=>bif Nat.ble args.length fn.ntmps && !(fn.name == "runtime.NumGoroutine") then
   some (rn (aHe fn.results.toList) (fun _ S1=>match aHi T S1 fn.results.toList with
    | some (vs,ns)=>needs (.bool true) ns (k (popS S.F.length o.dst (resV vs) S1))
    | none=>.fail 20) c (aS7 fn args S))
   else none
structure Ev where
 g:E
 ns:List Need
 call:Option (Option Md×FuncId×List LV×LV×Nat×Nat)
 dc:Option DC
 v:LV
 up:Option (Nat×Ob)
 touch:List Nat
 n:Nat
 S':St
def LV.id? : LV→Option Nat
 | .ptr id _ _ | .rp id _ _ _ | .rs id _ _ _ | .mp id _=>some id
 | _=>none
def aHx (ρ:Operand→LV):List Operand→List Nat
 | []=>[]
 | x::r=>match (ρ x).id? with
  | some i=>i::aHx ρ r
  | none=>aHx ρ r
@[simp] def lookO:Op→List Operand
 | .store _ a _=>[a]
 | op=>op.operands.toList
def aFR (ρ:Operand→LV):Op→List Nat
 | .move _ | .assign _=>[]
 | op=>aHx ρ (lookO op)
def aA7:E→Bool
 | .bool true=>true
 | _=>false
def gv (g:E) (v:LV):LV:=bif aA7 g then v else .g g v
def upS (S:St):Option (Nat×Ob)→St
 | none=>S
 | some (j,ob)=>bif Nat.beq j S.L.length then { S with L:=S.L++[ob] } else { S with L:=setO S.L j ob }
def effD (S:St) (g:E) (v:LV):Eff→Option (LV×Option (Nat×Ob)×Option DC×Nat)
 | .no=>some (gv g v,none,none,S.n)
 | .new o=>bif aA7 g then some (v,some (S.L.length,⟨1,o⟩),none,S.n) else none
 | .upd i ob=>bif aA7 g&&Nat.blt i S.L.length then some (v,some (i,ob),none,S.n) else none
 | .newc d o vf=>bif aA7 g&&d.ok S.n then some (vf (.var S.n),some (S.L.length,⟨1,o (.var S.n)⟩),some d,S.n+1) else none
 | .updc d i o vf=>bif aA7 g&&Nat.blt i S.L.length&&d.ok S.n then some (vf (.var S.n),some (i,o (.var S.n)),some d,S.n+1) else none
def aNB (T:Tab) (ρ:Operand→LV) (get:Nat→Option Ob) (fresh:Nat) (op:Op):Option (List Need×DC) :=
 match op with
 | .buildSlice t len parts=>match aAx T ρ get fresh (.buildSlice t len parts) with
  | some ⟨ns,_,.newc d _ _⟩=>some (ns,d)
  | _=>none
 | _=>none
def evOp (T:Tab) (o:Oper) (g:E) (S:St):Option Ev :=
 match aDz (fun x=>aBw g (S.ev x)) o.op with
 | some (f,args)=>match aOF T o.type f (getO S.L) args with
  | some M=>bif aA7 g&&Nat.blt M.id S.L.length&&aAU S.n M.ns&&LVs.ok S.n M.as_ then
   some ⟨g,M.ns,some (some M.md,f,M.as_,.vs (.var S.n),S.n,S.n+1),none,M.v (.var S.n),some (M.id,M.ob (.var S.n)),aFR (fun x=>aBw g (S.ev x)) o.op,S.n,{ upS S (some (M.id,M.ob (.var S.n))) with n:=S.n+1 }.put o.dst (M.v (.var S.n))⟩ else none
  | none=>match aU3 T f args o.op with
  | some (e,sz)=>bif aA7 g then some ⟨g,aTu,none,some (.bytes (.str [])),.rs S.L.length 1 (.int 0) (.clen (.var S.n)),some (S.L.length,⟨1,.row (.var S.n) e sz⟩),aFR (fun x=>aBw g (S.ev x)) o.op,S.n,St.put { upS S (some (S.L.length,⟨1,.row (.var S.n) e sz⟩)) with n:=S.n+1 } o.dst (.rs S.L.length 1 (.int 0) (.clen (.var S.n)))⟩ else none
  | none=>match aA0 (getO S.L) args,aFZ T o.type S.n with
   | some (as_,ns),some (sh,m)=>bif aAU S.n ns&&LVs.ok S.n as_&&sh.ok m then
    bif args.any isRs && !aCx sh then match frz (getO S.L) args with
     | some (i,ob)=>bif aA7 g&&Nat.blt i S.L.length then some ⟨g,ns,some (none,f,as_,sh,S.n,m),none,sh,some (i,ob),aFR (fun x=>aBw g (S.ev x)) o.op,S.n,{ upS S (some (i,ob)) with n:=m }.put o.dst sh⟩ else none
     | none=>none
    else some ⟨g,ns,some (none,f,as_,sh,S.n,m),none,gv g sh,none,aFR (fun x=>aBw g (S.ev x)) o.op,S.n,{ S with n:=m }.put o.dst (gv g sh)⟩ else none
   | _,_=>none
 | none=>match aH2 o.op with
  | some (c,a,b)=>match aBw g (S.ev c) with
   | .b t=>match pk t (aBw (aKU g t) (S.ev a)) (aBw (aKU g (aFu t)) (S.ev b)) with
    | some v=>some ⟨g,[],none,none,gv g v,none,[],S.n,S.put o.dst (gv g v)⟩
    | none=>none
   | _=>none
  | none=>match bif T.cl then aNB T (fun x=>aBw g (S.ev x)) (getO S.L) S.L.length o.op else none with
  | some (ns,d)=>bif aAU S.n ns&&d.ok S.n then some ⟨g,ns,none,some d,gv g (.vs (.var S.n)),none,aFR (fun x=>aBw g (S.ev x)) o.op,S.n,{ S with n:=S.n+1 }.put o.dst (gv g (.vs (.var S.n)))⟩ else none
  | none=>match aAx T (fun x=>aBw g (S.ev x)) (getO S.L) S.L.length o.op with
   | some ⟨ns,v,e⟩=>match effD S g v e with
    | some (v',up,dc,m)=>bif aAU S.n ns then some ⟨g,ns,none,dc,v',up,aFR (fun x=>aBw g (S.ev x)) o.op,S.n,{ upS S up with n:=m }.put o.dst v'⟩ else none
    | none=>none
   | none=>none
def aF6 (T:Tab) (ops:Array Oper) (o:Oper) (S:St):Option Ev :=
 match aGb ops S.F o.guard with
 | none=>none
 | some (.bool false)=>some ⟨.bool false,[],none,none,.tup [],none,[],S.n,S.put o.dst (.tup [])⟩
 | some g=>bif g.ok S.n then evOp T o g S else none
def aQL:List (Nat×Bool)→Nat→Option Bool
 | [],_=>none
 | (d,b)::r,i=>bif Nat.beq d i then some b else aQL r i
def aK6 (x:E) (b:Bool):Need:=bif b then .le (.int 1) (.ite x (.int 1) (.int 0)) else .le (.ite x (.int 1) (.int 0)) (.int 0)
def knE (K:List (Nat×Bool)) (dst:Option Tmp) (n:Nat) (e:Ev):Ev :=
 match dst with
 | none=>e
 | some d=>match aQL K d with
  | none=>e
  | some b=>match e.v with
   | .b x=>bif aA7 e.g&&x.ok n then { e with ns:=aK6 x b::e.ns,v:=.b (.bool b),S':={ e.S' with F:=setL e.S'.F d (.b (.bool b)) } } else e
   | _=>e
def aGh (T:Tab) (K:List (Nat×Bool)) (ops:Array Oper) (o:Oper) (S:St):Option Ev :=
 match aF6 T ops o S with
 | none=>none
 | some e=>some (knE K o.dst S.n e)
def aDo (T:Tab) (K:List (Nat×Bool)) (ops:Array Oper):List Oper→St→Option (List Ev×St)
 | [],S=>some ([],S)
 | o::r,S=>match aGh T K ops o S with
  | none=>none
  | some e=>match aDo T K ops r e.S' with
   | none=>none
   | some (l,S')=>some (e::l,S')
def aKv (e:Ev) (t:Tr):Tr :=
 needs e.g e.ns (match e.call with
  | some (md,f,as_,sh,n,m)=>.call md e.g f as_ sh n m t
  | none=>match e.dc with
   | some d=>.letC d t
   | none=>t)
def aLe:List Ev→Tr→Tr
 | [],t=>t
 | e::r,t=>aKv e (aLe r t)
def getN:List Nat→Nat→Nat
 | [],_=>0
 | c::_,0=>c
 | _::r,n+1=>getN r n
def aAS (e:Edge):Bool:=Region.binds .any e
def ancF (acc:List Nat):List Edge→Nat
 | []=>0
 | e::r=>bif aAS e then Nat.lor (Nat.lor (getN acc e.on) (Nat.shiftLeft 1 e.on)) (ancF acc r) else ancF acc r
def ancs:List Oper→List Nat→List Nat
 | [],acc=>acc
 | o::r,acc=>ancs r (acc++[ancF acc o.after.toList])
def rowD (ops:Array Oper) (i:Nat) (o:Oper):Bool :=
 (o.after.all fun e=>!aAS e||Nat.blt e.on i) &&
 (List.range ops.size).all fun j=>match ops[j]? with
  | none=>true
  | some oj=>match oj.dst with
   | none=>true
   | some s=>(!(o.looksAt ops).contains s||Nat.beq i j||(o.after.any fun e=>aAS e&&Nat.beq e.on j)||(Nat.blt i j&&oj.after.any fun e=>aAS e&&Nat.beq e.on i))&&(o.dst != some s||Nat.beq i j)
def okE (ops:Array Oper):Bool:=Region.noSelect ops&&(List.range ops.size).all fun i=>match ops[i]? with | none=>true | some o=>rowD ops i o
def okM1 (A:List Nat) (k id:Nat):Nat→List Ev→Bool
 | _,[]=>true
 | i,e::r=>(Nat.beq i k || !(e.touch.any (Nat.beq id)||(match e.up with | some (j,_)=>Nat.beq id j | none=>false))||Nat.testBit (getN A i) k||Nat.testBit (getN A k) i)&&okM1 A k id (i+1) r
def okM (A:List Nat) (all:List Ev):Nat→List Ev→Bool
 | _,[]=>true
 | k,e::r=>(match e.up with | some (id,_)=>okM1 A k id 0 all | none=>true)&&okM A all (k+1) r
def okD (ops:Array Oper) (evs:List Ev):Bool:=okE ops&&okM (ancs ops.toList []) evs 0 evs
def aRD (T:Tab) (K:List (Nat×Bool)) (ops:Array Oper) (S:St):List Oper→Option (Nat×E)
 | []=>none
 | o::r=>match o.guard with
  | none=>aRD T K ops S r
  | some (j,_)=>match (ops[j]?).bind (·.dst) with
   | none=>aRD T K ops S r
   | some d=>match aDo T K ops (ops.toList.take (j+1)) S with
    | none=>none
    | some (_,S')=>match getL S'.F d with
     | .b (.bool _)=>aRD T K ops S r
     | .b e=>bif e.ok S.n then some (d,e) else none
     | _=>none
def aM2 (ops:Array Oper):List Oper→List Nat
 | []=>[]
 | o::r=>match o.guard with
  | none=>aM2 ops r
  | some (j,_)=>match (ops[j]?).bind (·.dst) with
   | some d=>d::aM2 ops r
   | none=>aM2 ops r
def aPI:E→Bool
 | .bool _=>true
 | _=>false
def aVr (fk:List Nat) (dst:Option Tmp) (e:Ev) (n:Nat):Option E :=
 match dst,e.v with
 | some d,.b x=>bif aNN d fk&&aA7 e.g&&x.ok n && !aPI x then some x else none
 | _,_=>none
def aIG (T:Tab) (ops:Array Oper) (S0:St) (k:St→Tr) (fk:List Nat):List Oper→St→List Ev→Tr
 | [],S,acc=>bif S0.ok&&okD ops acc then k S else .fail 5
 | o::r,S,acc=>match aF6 T ops o S with
  | none=>.fail (2000+acc.length)
  | some e=>match aVr fk o.dst e S.n with
   | some x=>aKv e (.br x (aIG T ops S0 k fk r (knE [(o.dst.getD 0,true)] o.dst S.n e).S' (acc++[knE [(o.dst.getD 0,true)] o.dst S.n e])) (aIG T ops S0 k fk r (knE [(o.dst.getD 0,false)] o.dst S.n e).S' (acc++[knE [(o.dst.getD 0,false)] o.dst S.n e])))
   | none=>aKv e (aIG T ops S0 k fk r e.S' (acc++[e]))
def aOh (T:Tab) (ops:Array Oper) (S:St) (k:St→Tr):Nat→List (Nat×Bool)→Tr
 | 0,K=>match aDo T K ops ops.toList S with
  | some (evs,S')=>bif S.ok&&okD ops evs then aLe evs (k S') else .fail 5
  | none=>.fail 12
 | n+1,K=>match aDo T K ops ops.toList S with
  | some (evs,S')=>bif S.ok&&okD ops evs then aLe evs (k S') else .fail 5
  | none=>match aRD T K ops S ops.toList with
   | some (d,e)=>.br e (aOh T ops S k n ((d,true)::K)) (aOh T ops S k n ((d,false)::K))
   | none=>aIG { T with cl:=true } ops S k (aM2 ops ops.toList) ops.toList S []
def runD (T:Tab) (ops:Array Oper) (S:St) (k:St→Tr):Tr:=aOh T ops S k 2 []
def aSC (B:FuncId→Option Func):Op→Bool
 | .call { callee:=.invoke _ _,.. }=>true
 | .call { callee:=.value (.func f),.. }=>(B f).isSome
 | _=>false
def aPb (ops:Array Oper):Bool :=
 okE ops&&(List.range (ops.size - 1)).all (fun j=>Nat.testBit (getN (ancs ops.toList []) (ops.size - 1)) j)&&ops.pop.all fun o=>match o.guard with
  | none=>true
  | some (g,_)=>Nat.blt g (ops.size - 1)
def aTm (B:FuncId→Option Func) (ops:Array Oper):Option Oper :=
 match ops.back? with
 | none=>none
 | some o=>bif o.guard.isNone&&aSC B o.op&&aPb ops then some o else none
def aCB (id:Nat):List Kont→Option (List Kont)
 | []=>none
 | .blk id'::K=>bif Nat.beq id' id then some K else aCB id K
 | .code _::K=>aCB id K
 | .mark _ _ _::K=>aCB id K
end
section
def bit (t:Nat):Nat:=Nat.shiftLeft 1 t
def aRn:List Operand→Nat→Nat
 | [],m=>m
 | .tmp t::r,m=>aRn r (Nat.lor m (bit t))
 | _::r,m=>aRn r m
def aUl (m t:Nat):Nat:=bif Nat.testBit m t then Nat.sub m (bit t) else m
def aUI (ops:Array Oper):List Oper→Nat→Nat
 | [],m=>m
 | o::r,m =>
  let m1:=aUI ops r m
  let m2:=match o.dst with
   | some d=>aUl m1 d
   | none=>m1
  let m3:=aRn o.op.operands.toList m2
  match o.guard with
  | some (j,_)=>match (ops[j]?).bind (·.dst) with
   | some d=>Nat.lor m3 (bit d)
   | none=>m3
  | none=>m3
def lvC:Code→(Nat→Nat)→Nat→Nat→Nat
 | .skip,_,_,m | .label _,_,_,m=>m
 | .region _ ops _,_,_,m=>aUI ops ops.toList m
 | .seq a b,brk,ret,m=>lvC a brk ret (lvC b brk ret m)
 | .cond c x y,brk,ret,m=>aRn [c] (Nat.lor (lvC x brk ret m) (lvC y brk ret m))
 | .block id c,brk,ret,m=>lvC c (fun j=>bif Nat.beq j id then m else brk j) ret m
 | .loop c,brk,ret,_=>lvC c brk ret 0
 | .scope c,brk,ret,m=>lvC c brk ret m
 | .exit id,brk,_,_=>brk id
 | .ret,_,ret,_=>ret
 | _,_,_,m=>m
def aTO:List LV→Nat→Nat
 | [],_=>0
 | .junk::r,i=>aTO r (i+1)
 | _::r,i=>Nat.lor (bit i) (aTO r (i+1))
def aQ7 (ret:Nat):List Kont→Nat×(Nat→Nat)
 | []=>(ret,fun _=>ret)
 | .code c::K=>match aQ7 ret K with
  | (m,b)=>(lvC c b ret m,b)
 | .blk id::K=>match aQ7 ret K with
  | (m,b)=>(m,fun j=>bif Nat.beq j id then m else b j)
 | .mark _ _ H::K=>(aTO H.F 0,(aQ7 ret K).2)
mutual
def nvV (get:Nat→Option Ob):LV→LV
 | .ptr id ver off=>match get id with
  | some ob=>bif Nat.beq ver ob.ver then .ptr id 1 off else .junk
  | none=>.junk
 | .rs id ver o n=>match get id with
  | some ob=>bif Nat.beq ver ob.ver then .rs id 1 o n else .junk
  | none=>.junk
 | .mp id ver=>match get id with
  | some ob=>bif Nat.beq ver ob.ver then .mp id 1 else .junk
  | none=>.junk
 | .rp _ _ _ _ | .g _ _=>.junk
 | .agg cs=>.agg (nvVs get cs)
 | .fn f cs=>.fn f (nvVs get cs)
 | .nl _ _=>.junk
 | .tup cs=>.tup (nvVs get cs)
 | .ifc t v=>.ifc t (nvV get v)
 | v=>v
def nvVs (get:Nat→Option Ob):List LV→List LV
 | []=>[]
 | v::r=>nvV get v::nvVs get r
end
def nvO (get:Nat→Option Ob) (ob:Ob):Ob :=
 ⟨1,match ob.o with
  | .box cs e=>.box (nvVs get cs) e
  | o=>o⟩
mutual
def idsV:LV→Nat→Nat
 | .ptr id _ _,m | .rs id _ _ _,m | .mp id _,m=>Nat.lor m (bit id)
 | .agg cs,m | .tup cs,m | .fn _ cs,m=>aPg cs m
 | .ifc _ v,m=>idsV v m
 | _,m=>m
def aPg:List LV→Nat→Nat
 | [],m=>m
 | v::r,m=>aPg r (idsV v m)
end
def idsL (m:Nat):List Ob→Nat→Nat→Nat
 | [],_,acc=>acc
 | ob::r,i,acc=>idsL m r (i+1) (bif Nat.testBit m i then (match ob.o with | .box cs _=>aPg cs acc | _=>acc) else acc)
def idsN (L:List Ob):Nat→Nat→Nat
 | 0,m=>m
 | k+1,m=>idsN L k (idsL m L 0 m)
def aSJ (m:Nat):List Ob→Nat→List Ob
 | [],_=>[]
 | ob::r,i=>(bif Nat.testBit m i then ob else ⟨0,.hole⟩)::aSJ m r (i+1)
def aVj (S:St):St:={ S with L:=aSJ (idsN S.L S.L.length (aPg S.G (aPg S.F 0))) S.L 0 }
def aVa (m:Nat):List LV→Nat→List LV
 | [],_=>[]
 | v::r,i=>(bif Nat.testBit m i then v else .junk)::aVa m r (i+1)
def prep (live:Nat) (S:St):St :=
 aVj { S with F:=nvVs (getO S.L) (aVa live S.F 0),L:=S.L.map (nvO (getO S.L)),G:=nvVs (getO S.L) S.G }
structure JS where
 n:Nat
 L:List Ob
def aQ9 (n0:Nat):E→Bool
 | .var m=>Nat.ble n0 m
 | _=>false
def aFN (n0:Nat) (h e:E) (js:JS):E×JS :=
 bif aQ9 n0 h||(h.ok n0&&decide (h=e)) then (h,js) else (.var js.n,{ js with n:=js.n+1 })
def rowC (L:List Ob) (j:Nat):Option E :=
 match getO L j with
 | some ⟨_,.row c _ _⟩=>some c
 | _=>none
def aIK (L:List Ob) (j:Nat):E→Bool
 | .clen c=>match rowC L j with
  | some c'=>decide (c=c')
  | none=>false
 | _=>false
def aSh:Value→Value→Bool
 | .slice none 0 0,.slice none 0 0=>true
 | .func (.func f) a b,.func (.func g) c d=>Nat.beq f g&&a.isEmpty&&b.isEmpty&&c.isEmpty&&d.isEmpty
 | .pointer none,.pointer none=>true
 | .nilIface,.nilIface=>true
 | _,_=>false
mutual
def aU7 (n0:Nat) (HL SL:List Ob):LV→LV→JS→LV×JS
 | .b h,.b e,js=>match aFN n0 h e js with
  | (x,js)=>(.b x,js)
 | .i k h,.i k' e,js=>bif kEq k k' then (match aFN n0 h e js with
  | (x,js)=>(.i k x,js)) else (.junk,js)
 | .s h,.s e,js=>match aFN n0 h e js with
  | (x,js)=>(.s x,js)
 | .vs h,.vs e,js=>match aFN n0 h e js with
  | (x,js)=>(.vs x,js)
 | .vs h,.k (.slice none 0 0),js=>match aFN n0 h (.str []) js with
  | (x,js)=>(.vs x,js)
 | .k (.slice none 0 0),.vs _,js=>(.vs (.var js.n),{ js with n:=js.n+1 })
 | .k (.slice none 0 0),.rs id _ _ _,js=>match getO SL id with
  | some ⟨_,.row _ el sz⟩=>(.rs js.L.length 1 (.int 0) (.clen (.var js.n)),{ n:=js.n+1,L:=js.L++[⟨1,.row (.var js.n) el sz⟩] })
  | _=>(.junk,js)
 | .k v,.k v',js=>(bif aSh v v' then .k v else .junk,js)
 | .o h,.o e,js=>(bif h.ok n0&&decide (h=e) then .o h else .junk,js)
 | .rs j _ o n,.rs id ver o' n',js=>bif !(match getO SL id with | some ob=>Nat.beq ob.ver ver | none=>false) then (.junk,js) else
  match aFN n0 o o' js with
  | (x,js) =>
   let js:=bif Nat.beq j id then js else match getO js.L j with
    | some ⟨_,.row c el sz⟩=>bif aQ9 n0 c then js else { n:=js.n+1,L:=setO js.L j ⟨1,.row (.var js.n) el sz⟩ }
    | _=>js
   bif aIK HL j n&&aIK SL id n' then (.rs j 1 x (match rowC js.L j with | some c=>.clen c | none=>n),js) else match aFN n0 n n' js with
    | (y,js)=>(.rs j 1 x y,js)
 | .rs j _ o n,.k (.slice none 0 0),js =>
  let js:=match getO js.L j with
   | some ⟨_,.row c el sz⟩=>bif aQ9 n0 c then js else { n:=js.n+1,L:=setO js.L j ⟨1,.row (.var js.n) el sz⟩ }
   | _=>js
  (.rs j 1 o n,js)
 | .mp j _,.mp _ _,js=>(.mp j 1,js)
 | .ptr j _ off,.ptr _ _ off',js=>(bif Nat.beq off off' then .ptr j 1 off else .junk,js)
 | .vp c i f,.vp c' i' f',js=>match aFN n0 c c' js with
  | (x,js)=>match aFN n0 i i' js with
   | (y,js)=>(bif Nat.beq f f' then .vp x y f else .junk,js)
 | .agg cs,.agg es,js=>match aIv n0 HL SL cs es js with
  | (some l,js)=>(.agg l,js)
  | (none,js)=>(.junk,js)
 | .tup cs,.tup es,js=>match aIv n0 HL SL cs es js with
  | (some l,js)=>(.tup l,js)
  | (none,js)=>(.junk,js)
 | .fn f cs,.fn f' es,js=>match aIv n0 HL SL cs es js with
  | (some l,js)=>(bif Nat.beq f f' then .fn f l else .junk,js)
  | (none,js)=>(.junk,js)
 | .ifc t h,.ifc t' e,js=>match aU7 n0 HL SL h e js with
  | (x,js)=>(bif Nat.beq t t' then .ifc t x else .junk,js)
 | _,_,js=>(.junk,js)
def aIv (n0:Nat) (HL SL:List Ob):List LV→List LV→JS→Option (List LV)×JS
 | [],[],js=>(some [],js)
 | h::hs,e::es,js=>match aU7 n0 HL SL h e js with
  | (x,js)=>match aIv n0 HL SL hs es js with
   | (some l,js)=>(some (x::l),js)
   | (none,js)=>(none,js)
 | _,_,js=>(none,js)
end
def aVV (n0:Nat) (HL SL:List Ob) (h e:Ob) (js:JS):Ob×JS :=
 match h.o,e.o with
 | .box cs t,.box es _=>match aIv n0 HL SL cs es js with
  | (some l,js)=>(⟨1,.box l t⟩,js)
  | (none,js)=>(⟨0,.hole⟩,js)
 | .row c t sz,.row d _ _=>match aFN n0 c d js with
  | (x,js)=>(⟨1,.row x t sz⟩,js)
 | .mp c vk,.mp d _=>match aFN n0 c d js with
  | (x,js)=>(⟨1,.mp x vk⟩,js)
 | .iter s p,.iter s' p'=>match aFN n0 s s' js with
  | (x,js)=>match aFN n0 p p' js with
   | (y,js)=>(⟨1,.iter x y⟩,js)
 | _,_=>(h,js)
def aUD (n0:Nat) (HL SL:List Ob):List Ob→List Ob→JS→List Ob×JS
 | h::hs,e::es,js=>match aVV n0 HL SL h e js with
  | (x,js)=>match aUD n0 HL SL hs es js with
   | (l,js)=>(x::l,js)
 | hs,_,js=>(hs,js)
mutual
def reV (old new:List Ob):LV→LV
 | .rs j v o n=>bif aIK old j n then (match rowC new j with | some c=>.rs j v o (.clen c) | none=>.rs j v o n) else .rs j v o n
 | .agg cs=>.agg (reVs old new cs)
 | .fn f cs=>.fn f (reVs old new cs)
 | .tup cs=>.tup (reVs old new cs)
 | .ifc t v=>.ifc t (reV old new v)
 | v=>v
def reVs (old new:List Ob):List LV→List LV
 | []=>[]
 | v::r=>reV old new v::reVs old new r
end
def reO (old new:List Ob) (ob:Ob):Ob :=
 match ob.o with
 | .box cs e=>{ ob with o:=.box (reVs old new cs) e }
 | _=>ob
def mixL (n0:Nat):List Ob→List Ob→List Ob
 | _,[]=>[]
 | [],r=>r
 | x::xs,y::ys=>(match y.o with
  | .row c _ _=>bif aQ9 n0 c then y else x
  | _=>x)::mixL n0 xs ys
def aVE (n0:Nat) (H S:St):St :=
 match aUD n0 H.L S.L H.L S.L ⟨H.n,H.L⟩ with
 | (L1,js1) =>
  let L1:=mixL n0 L1 js1.L
  let L1:=L1.map (reO H.L L1)
  match aIv n0 H.L S.L (H.F++H.G) (S.F++S.G) { js1 with L:=L1 } with
  | (some F2,js2)=>aVj { F:=reVs L1 js2.L (F2.take H.F.length),L:=js2.L.map (reO L1 js2.L),n:=js2.n,G:=reVs L1 js2.L (F2.drop H.F.length) }
  | (none,_)=>H
def θAt:List (Srt×E)→Nat→Option (Srt×E)
 | [],_=>none
 | p::_,0=>some p
 | _::r,k+1=>θAt r k
structure Mt where
 n0:Nat
 θ:List (Srt×E)
 ids:List (Option (Option Nat))
def idAt:List (Option (Option Nat))→Nat→Option (Option Nat)
 | [],_=>none
 | p::_,0=>p
 | _::r,k+1=>idAt r k
def okT (M:Mt) (q:Srt) (h e:E):Bool :=
 match h with
 | .var m=>bif Nat.ble M.n0 m then (match θAt M.θ (m - M.n0) with
  | some (q',e')=>decide (q'=q)&&decide (e'=e)
  | none=>false) else decide (e = .var m)
 | .clen (.var m)=>bif Nat.ble M.n0 m then (match e,θAt M.θ (m - M.n0) with
  | .clen d,some (.l,e')=>decide (e'=d)
  | _,_=>false) else decide (e = .clen (.var m))
 | h=>h.ok M.n0&&decide (e=h)
def aEF (L:List Ob) (j v:Nat):Bool :=
 match getO L j with
 | some ob=>Nat.beq ob.ver v
 | none=>false
def isId (o:Option (Option Nat)) (id:Nat):Bool :=
 match o with
 | some (some k)=>Nat.beq k id
 | _=>false
def aQQ (o:Option (Option Nat)):Bool :=
 match o with
 | some none=>true
 | _=>false
mutual
def okV (M:Mt) (HL SL:List Ob):LV→LV→Bool
 | .junk,_=>true
 | .b h,.b e=>okT M .b h e
 | .i k h,.i k' e=>kEq k k'&&okT M .i h e
 | .s h,.s e=>okT M .s h e
 | .vs h,.vs e=>okT M .l h e
 | .vs h,.k (.slice none 0 0)=>okT M .l h (.str [])
 | .k v,.k v'=>aSh v v'
 | .o h,.o e=>h.ok M.n0&&decide (h=e)
 | .agg cs,.agg es=>okVs M HL SL cs es
 | .tup cs,.tup es=>okVs M HL SL cs es
 | .fn f cs,.fn f' es=>Nat.beq f f'&&okVs M HL SL cs es
 | .mp j v,.mp id v'=>aEF HL j v&&aEF SL id v'&&isId (idAt M.ids j) id
 | .ptr j v off,.ptr id v' off'=>Nat.beq off off'&&aEF HL j v&&aEF SL id v'&&isId (idAt M.ids j) id
 | .rs j v o n,.rs id v' o' n'=>aEF HL j v&&aEF SL id v'&&isId (idAt M.ids j) id&&okT M .i o o'&&okT M .i n n'
 | .rs j v o n,.k (.slice none 0 0)=>aEF HL j v&&aQQ (idAt M.ids j)&&aCF o&&okT M .i n (.clen (.str []))
 | .vp c i f,.vp c' i' f'=>okT M .l c c'&&okT M .i i i'&&Nat.beq f f'
 | .ifc t h,.ifc t' e=>Nat.beq t t'&&okV M HL SL h e
 | _,_=>false
def okVs (M:Mt) (HL SL:List Ob):List LV→List LV→Bool
 | [],[]=>true
 | h::hs,e::es=>okV M HL SL h e&&okVs M HL SL hs es
 | _,_=>false
end
def okOb (M:Mt) (HL SL:List Ob) (id:Option (Option Nat)) (h:Ob):Bool :=
 match id with
 | none=>match h with
  | ⟨0,.hole⟩=>true
  | _=>false
 | some none=>match h.o with
  | .row c _ sz=>okT M .l c (.str [])&&Nat.ble 1 sz
  | _=>false
 | some (some k)=>match getO SL k with
  | none=>false
  | some e=>match h.o,e.o with
   | .box cs t,.box es t'=>Nat.beq t t'&&okVs M HL SL cs es
   | .row c t sz,.row d t' sz'=>Nat.beq t t'&&Nat.beq sz sz'&&okT M .l c d
   | .mp c vk,.mp d vk'=>Nat.beq vk vk'&&okT M .l c d
   | .iter s p,.iter s' p'=>okT M .s s s'&&okT M .i p p'
   | _,_=>false
def aQo (M:Mt) (HL SL:List Ob):Nat→List Ob→Bool
 | _,[]=>true
 | j,h::r=>okOb M HL SL (idAt M.ids j) h&&aQo M HL SL (j+1) r
def isIn (k:Nat):List (Option (Option Nat))→Bool
 | []=>false
 | some (some j)::r=>Nat.beq j k||isIn k r
 | _::r=>isIn k r
def apart:List (Option (Option Nat))→Bool
 | []=>true
 | some (some j)::r=>!isIn j r&&apart r
 | _::r=>apart r
def okM' (M:Mt) (H S:St):Bool :=
 Nat.ble M.n0 S.n&&Nat.beq H.n (M.n0+M.θ.length)&&Nat.beq M.ids.length H.L.length&&apart M.ids&&okVs M H.L S.L H.F S.F&&aQo M H.L S.L 0 H.L&&okVs M H.L S.L H.G S.G
structure Gs where
 θ:List (Nat×Srt×E)
 ids:List (Nat×Option Nat)
def gsE (n0:Nat) (q:Srt) (h e:E) (G:Gs):Gs :=
 match h with
 | .var m=>bif Nat.ble n0 m then { G with θ:=(m,q,e)::G.θ } else G
 | _=>G
mutual
def gsV (n0:Nat):LV→LV→Gs→Gs
 | .b h,.b e,G=>gsE n0 .b h e G
 | .i _ h,.i _ e,G=>gsE n0 .i h e G
 | .s h,.s e,G=>gsE n0 .s h e G
 | .vs h,.vs e,G=>gsE n0 .l h e G
 | .vs h,.k _,G=>gsE n0 .l h (.str []) G
 | .agg cs,.agg es,G=>gsVs n0 cs es G
 | .tup cs,.tup es,G=>gsVs n0 cs es G
 | .fn _ cs,.fn _ es,G=>gsVs n0 cs es G
 | .mp j _,.mp id _,G=>{ G with ids:=(j,some id)::G.ids }
 | .ptr j _ _,.ptr id _ _,G=>{ G with ids:=(j,some id)::G.ids }
 | .rs j _ o n,.rs id _ o' n',G=>gsE n0 .i o o' (gsE n0 .i n n' { G with ids:=(j,some id)::G.ids })
 | .rs j _ _ n,.k _,G=>gsE n0 .i n (.clen (.str [])) { G with ids:=(j,none)::G.ids }
 | .vp c i _,.vp c' i' _,G=>gsE n0 .l c c' (gsE n0 .i i i' G)
 | .ifc _ h,.ifc _ e,G=>gsV n0 h e G
 | _,_,G=>G
def gsVs (n0:Nat):List LV→List LV→Gs→Gs
 | h::hs,e::es,G=>gsVs n0 hs es (gsV n0 h e G)
 | _,_,G=>G
end
def aQ6 {α:Type}:List (Nat×α)→Nat→Option α
 | [],_=>none
 | (k,v)::r,n=>bif Nat.beq k n then some v else aQ6 r n
def gsO (n0:Nat) (h e:LO) (G:Gs):Gs :=
 match h,e with
 | .box cs _,.box es _=>gsVs n0 cs es G
 | .row c _ _,.row d _ _=>gsE n0 .l c d G
 | .mp c _,.mp d _=>gsE n0 .l c d G
 | .iter s p,.iter s' p'=>gsE n0 .s s s' (gsE n0 .i p p' G)
 | _,_=>G
def gsL (n0:Nat) (SL:List Ob):Nat→List Ob→Gs→Gs
 | _,[],G=>G
 | j,h::r,G=>gsL n0 SL (j+1) r (match aQ6 G.ids j with
  | some (some id)=>match getO SL id with
   | some e=>gsO n0 h.o e.o G
   | none=>G
  | some none=>match h.o with
   | .row c _ _=>gsE n0 .l c (.str []) G
   | _=>G
  | none=>G)
def gsN (n0:Nat) (HL SL:List Ob):Nat→Gs→Gs
 | 0,G=>G
 | k+1,G=>gsN n0 HL SL k (gsL n0 SL 0 HL G)
def aGc (n0:Nat) (H S:St):Option (List (Srt×E)) :=
 let G:=gsN n0 H.L S.L 2 (gsVs n0 H.G S.G (gsVs n0 H.F S.F ⟨[],[]⟩))
 let M:Mt:=⟨n0,(List.range (H.n - n0)).map fun k=>(aQ6 G.θ (n0+k)).getD (.i,.int 0),(List.range H.L.length).map fun j=>aQ6 G.ids j⟩
 bif okM' M H S then some M.θ else none
def aRm (m:Nat):Tr→List St→List St
 | .br _ t f,acc | .nil _ t f,acc=>aRm m t (aRm m f acc)
 | .need _ _ t,acc | .letC _ t,acc | .call _ _ _ _ _ _ _ t,acc | .loop _ _ t,acc=>aRm m t acc
 | .stop S k,acc=>bif Nat.beq k m then S::acc else acc
 | _,acc=>acc
def aQj (n0:Nat):List St→St→St
 | [],H=>H
 | S::r,H=>aQj n0 r (aVE n0 H S)
def aU0 (n0 m:Nat) (go:St→Tr):Nat→St→St
 | 0,H=>H
 | k+1,H=>match aRm m (go H) [] with
  | []=>H
  | l=>aU0 n0 m go k (aQj n0 l H)
def aTX (n0 m:Nat) (S:St):List Hd→Option St
 | []=>none
 | h::r=>bif Nat.beq h.n0 n0&&Nat.beq h.m m then (match aGc n0 ⟨h.F,h.L,h.n,h.G⟩ S with
  | some _=>some ⟨h.F,h.L,h.n,h.G⟩
  | none=>aTX n0 m S r) else aTX n0 m S r
def aUB (T:Tab) (n0 m:Nat) (go:St→Tr) (k:Nat) (H0 S:St):St :=
 match aTX n0 m S T.hs with
 | some H=>H
 | none=>aU0 n0 m go k H0
def aLj:List LV→List LV→Nat→List Tmp
 | .vs _::hs,.rs _ _ _ _::es,t=>t::aLj hs es (t+1)
 | _::hs,_::es,t=>aLj hs es (t+1)
 | _,_,_=>[]
def aSG (m n0:Nat) (H S:St):Tr :=
 match aGc n0 H S with
 | some θ=>.again m θ
 | none=>match aEL (aLj H.F S.F 0) S with
  | some (S',ns)=>match aGc n0 H S' with
   | some θ=>needs (.bool true) ns (.again m θ)
   | none=>.stop S' m
  | none=>.stop S m
def aB1:List Kont→Nat
 | []=>0
 | .mark _ _ _::K=>aB1 K+1
 | _::K=>aB1 K
def bare:List Kont→List Kont
 | []=>[]
 | .code _::K=>bare K
 | k::K=>k::bare K
def runB (T:Tab) (B:FuncId→Option Func):Nat→Nat→(Ex→St→Tr)→Nat→List Kont→St→Tr
 | 0,_,_,_,_,_=>.fail 0
 | _+1,_,fin,_,[],S=>fin .normal S
 | n+1,ret,fin,m0,.blk _::K,S=>runB T B n ret fin m0 K S
 | _+1,_,_,_,.mark m n0 H::_,S=>aSG m n0 H S
 | n+1,ret,fin,m0,.code c::K,S=>match c with
  | .skip | .label _=>runB T B n ret fin m0 K S
  | .seq a b=>runB T B n ret fin m0 (.code a :: .code b::K) S
  | .region _ ops d=>bif d then (match aTm B ops with
   | some o=>runD T ops.pop S fun S'=>aDX T (aRk T B fun ret' fin' c' S'=>runB T B n ret' fin' (m0+aB1 K) [.code c'] S') ops [o] S' (fun S'=>runB T B n ret fin m0 K S')
   | none=>runD T ops S (fun S'=>runB T B n ret fin m0 K S'))
   else aDX T (aRk T B fun ret' fin' c' S'=>runB T B n ret' fin' (m0+aB1 K) [.code c'] S') ops ops.toList S (fun S'=>runB T B n ret fin m0 K S')
  | .cond c x y=>match S.ev c with
   | .b (.bool true)=>runB T B n ret fin m0 (.code x::K) S
   | .b (.bool false)=>runB T B n ret fin m0 (.code y::K) S
   | .b e=>.br e (runB T B n ret fin m0 (.code x::K) (aFI S c true)) (runB T B n ret fin m0 (.code y::K) (aFI S c false))
   | .nl e false=>.nil e (runB T B n ret fin m0 (.code x::K) S) (runB T B n ret fin m0 (.code y::K) S)
   | .nl e true=>.nil e (runB T B n ret fin m0 (.code y::K) S) (runB T B n ret fin m0 (.code x::K) S)
   | _=>.fail 6
  | .block id c=>runB T B n ret fin m0 (.code c :: .blk id::K) S
  | .loop c =>
   let m:=m0+aB1 K
   let H:=aUB T S.n m (fun H=>runB T B n ret .done m0 (.code c :: .mark m S.n H::bare K) H) 5 (prep (lvC c (aQ7 ret K).2 ret 0) S) S
   match aGc S.n H S with
   | some θ=>.loop m θ (runB T B n ret fin m0 (.code c :: .mark m S.n H::K) H)
   | none=>.fail 13
  | .scope c=>runB T B n ret fin m0 (.code c::K) S
  | .exit id=>match aCB id K with
   | some K=>runB T B n ret fin m0 K S
   | none=>.fail 7
  | .ret=>fin .ret S
  | _=>.fail 8
def noB:FuncId→Option Func:=fun _=>none
def run (T:Tab) (ret:Nat) (n:Nat) (K:List Kont) (S:St):Tr:=runB T noB n ret .done 0 K S
end
section
open Go.RowKit
def aEv:List Nat:=[0]
def Glo (w:World):Prop:=∀ g∈aEv,∃ m:Int,w.cell? ⟨g,0,none⟩=some (.int .i64 m)
theorem Glo.step {w w':World} (h:Glo w) (hb:Below w.heap.size w w'):Glo w':=fun g hg=>by
 obtain⟨m,hm⟩:=h g hg;refine⟨m,?_⟩;rw[hb.cell (p:=⟨g,0,none⟩) (World.block_lt_of_cell? _ _ hm)];exact hm
end
section
open Go.RowKit
inductive CVR (w:World) (X:Nat→Prop):CV→Value→Prop where
 | v (x:Value) (h1:x.oneCell'=true):CVR w X (.v x) x
 | nil (a:Option Addr):CVR w X (.vs []) (.slice a 0 0)
 | vs (els:List (List CV)) (b o sz c:Nat) (g:Nat→Nat→Value) (hsz : ∀ el∈els,el.length=sz) (hc:els.length≤c)
  (hcell : ∀ (i:Nat) (el:List CV),els[i]? = some el→∀ (f:Nat) (cv:CV),el[f]? = some cv→¬ X b∧w.cell? ⟨b,o+i*sz+f,none⟩=some (g i f))
  (hval : ∀ (i:Nat) (el:List CV),els[i]? = some el→∀ (f:Nat) (cv:CV),el[f]? = some cv→CVR w X cv (g i f)) :
  CVR w X (.vs els) (.slice (some ⟨b,o,none⟩) els.length c)
 | sem (Q:World→Value→Prop) (x:Value) (h1:x.oneCell'=true) (h : ∀ w',w.heap.size≤w'.heap.size→(∀ b,¬ X b→b<w.heap.size→w'.heap[b]? = w.heap[b]?)→Q w' x):CVR w X (.sem Q) x
theorem CVR.one {w:World} {Y:Nat→Prop} {cv:CV} {r:Value} (h:CVR w Y cv r):r.oneCell'=true:=by
 cases h with
 | v x h1=>exact h1
 | nil=>rfl
 | vs=>rfl
 | sem _ _ h1 _=>exact h1
theorem aJD {r:Value} (h:r.oneCell'=true):r.cells = #[r]:=by
 cases r <;> first | rfl | simp[Value.oneCell'] at h
theorem aCH {w w':World} {b o:Nat} (h:w'.heap[b]? = w.heap[b]?):w'.cell? ⟨b,o,none⟩=w.cell? ⟨b,o,none⟩:=by
 unfold World.cell?;rw[h]
structure Stays (X X':Nat→Prop) (w w':World):Prop where
 heap : ∀ b,¬ X b→b<w.heap.size→w'.heap[b]? = w.heap[b]?
 ex : ∀ b,X' b→X b∨w.heap.size≤b
 size:w.heap.size≤w'.heap.size
theorem CVR.step {w w':World} {X X':Nat→Prop} (h:Stays X X' w w') {cv:CV} {r:Value} (hr:CVR w X cv r):CVR w' X' cv r:=by
 induction hr with
 | v x h1=>exact .v x h1
 | nil a=>exact .nil a
 | vs els b o sz c g hsz hc hcell hval ih =>
  refine .vs els b o sz c g hsz hc (fun i el hi f cv hf=>?_) (fun i el hi f cv hf=>ih i el hi f cv hf);obtain⟨hx,hcl⟩:=hcell i el hi f cv hf;have hb:b<w.heap.size:=(World.block_lt_of_cell? _ _ hcl);refine⟨fun hx'=>?_,?_⟩
  · rcases h.ex b hx' with h1 | h1
    · exact hx h1
    · omega
  · rw[aCH (h.heap b hx hb)];exact hcl
 | sem Q x h1 hq =>
  refine .sem Q x h1 (fun w2 hs ha=>hq w2 (Nat.le_trans h.size hs) (fun b hb hlt=>?_))
  have h3 : ¬ X' b:=fun hx=>by
   rcases h.ex b hx with h2 | h2
   · exact hb h2
   · omega
  rw[ha b h3 (Nat.lt_of_lt_of_le hlt h.size),h.heap b hb hlt]
structure Pl where
 ver:Nat
 at_:Option (Nat×Nat)
 sz:Nat
def Own (σ:List Pl) (b:Nat):Prop:=∃ (i:Nat) (p:Pl) (c:Nat),σ[i]? = some p∧p.at_=some (b,c)
def Exc (X:Nat→Prop) (σ:List Pl) (b:Nat):Prop:=X b∨Own σ b
def ElR (w:World) (X:Nat→Prop) (el:List CV) (f:Nat) (r:Value):Prop :=
 ∃ (b o:Nat) (g:Nat→Value),r = .pointer (some ⟨b,o+f,none⟩)∧∀ (f':Nat) (cv:CV),el[f']? = some cv→¬ X b∧w.cell? ⟨b,o+f',none⟩=some (g f')∧CVR w X cv (g f')
def RsR (pl:Pl) (o n:Int) (a:Option Addr) (len rc:Nat):Prop :=
 (pl.at_=none∧a=none∧len=0∧rc=0∧n=0∧o=0) ∨
 ∃ b c off,pl.at_=some (b,c)∧a=some ⟨b,off,none⟩∧0≤n∧0≤o∧len=n.toNat∧len≤rc∧(o=0→off=0∧rc≤c)∧(len≠0→off=o.toNat*pl.sz)
def cvE (ν:Nu):E→CV
 | .cell c i f=>aAa (denC ν c) (denI ν i) f
 | e=>aAa (denC ν e) 0 0
mutual
def LR (ν:Nu) (w:World) (X:Nat→Prop) (σ:List Pl):LV→Value→Prop
 | .b e,r=>r = .bool (denB ν e)
 | .i k e,r=>r = .int k (denI ν e)
 | .s e,r=>r = .string (denS ν e)
 | .k v,r=>r=v
 | .vs c,r=>CVR w (Exc X σ) (.vs (denC ν c)) r
 | .o e,r=>CVR w (Exc X σ) (cvE ν e) r
 | .vp c i f,r=>ElR w (Exc X σ) ((denC ν c).getD (denI ν i).toNat []) f r
 | .agg cs,r=>∃ a:Array Value,r = .agg a∧LRs ν w X σ cs a.toList
 | .tup cs,r=>∃ a:Array Value,r = .tuple a∧LRs ν w X σ cs a.toList
 | .ptr id ver off,r=>∃ (p:Option Addr) (pl:Pl),r = .pointer p∧σ[id]? = some pl∧ver≤pl.ver∧(ver=pl.ver→∃ b c,pl.at_=some (b,c)∧p=some ⟨b,off,none⟩)
 | .rp id ver i f,r=>∃ (p:Option Addr) (pl:Pl),r = .pointer p∧σ[id]? = some pl∧ver≤pl.ver∧(ver=pl.ver→∃ b c,pl.at_=some (b,c)∧p=some ⟨b,(denI ν i).toNat*pl.sz+f,none⟩)
 | .rs id ver o n,r=>∃ (a:Option Addr) (len rc:Nat) (pl:Pl),r = .slice a len rc∧σ[id]? = some pl∧ver≤pl.ver∧(ver=pl.ver→RsR pl (denI ν o) (denI ν n) a len rc)
 | .fn f cs,r=>∃ a:Array Value,r = .func (.func f) #[] a∧LRs ν w X σ cs a.toList
 | .mp id ver,r=>∃ (p:Option Nat) (pl:Pl),r = .map p∧σ[id]? = some pl∧ver≤pl.ver∧(ver=pl.ver→∃ b c,pl.at_=some (b,c)∧p=some b)
 | .ifc t v,r=>∃ x,r = .iface t x∧LR ν w X σ v x
 | .nl c neg,r=>∃ b,r = .bool b∧(b = !neg→denC ν c=[])
 | .junk,_=>True
 | .g c v,r=>(denB ν c=true→LR ν w X σ v r)∧(denB ν c=false→r=undef)
def LRs (ν:Nu) (w:World) (X:Nat→Prop) (σ:List Pl):List LV→List Value→Prop
 | [],[]=>True
 | c::cs,r::rs=>LR ν w X σ c r∧LRs ν w X σ cs rs
 | _,_=>False
end
structure Later' (σ σ':List Pl):Prop where
 old : ∀ (i:Nat) (p:Pl),σ[i]? = some p→∃ p',σ'[i]? = some p'∧(p'=p∨p.ver<p'.ver)
theorem Later'.refl (σ:List Pl):Later' σ σ:=⟨fun _ p h=>⟨p,h,.inl rfl⟩⟩
mutual
theorem LR.step {ν:Nu} {w w':World} {X:Nat→Prop} {σ σ':List Pl} (h:Stays (Exc X σ) (Exc X σ') w w') (hσ:Later' σ σ') : ∀ (v:LV) (r:Value),LR ν w X σ v r→LR ν w' X σ' v r
 | .b e,r,hr=>by simpa only[LR] using hr
 | .i k e,r,hr=>by simpa only[LR] using hr
 | .s e,r,hr=>by simpa only[LR] using hr
 | .k v,r,hr=>by simpa only[LR] using hr
 | .vs c,r,hr=>by
  simp only[LR] at hr ⊢;exact hr.step h
 | .o e,r,hr=>by
  simp only[LR] at hr ⊢;exact hr.step h
 | .vp c i f,r,hr=>by
  simp only[LR] at hr ⊢;obtain⟨b,o,g,hr,hg⟩:=hr;refine⟨b,o,g,hr,fun f' cv hf=>?_⟩;obtain⟨hx,hcl,hv⟩:=hg f' cv hf;have hb:b<w.heap.size:=(World.block_lt_of_cell? _ _ hcl);refine⟨fun hx'=>?_,?_,hv.step h⟩
  · rcases h.ex b hx' with h1 | h1
    · exact hx h1
    · omega
  · rw[aCH (h.heap b hx hb)];exact hcl
 | .agg cs,r,hr=>by
  simp only[LR] at hr ⊢;obtain⟨a,hr,ha⟩:=hr;exact⟨a,hr,LRs.step h hσ cs a.toList ha⟩
 | .tup cs,r,hr=>by
  simp only[LR] at hr ⊢;obtain⟨a,hr,ha⟩:=hr;exact⟨a,hr,LRs.step h hσ cs a.toList ha⟩
 | .fn f cs,r,hr=>by
  simp only[LR] at hr ⊢;obtain⟨a,hr,ha⟩:=hr;exact⟨a,hr,LRs.step h hσ cs a.toList ha⟩
 | .nl c n,r,hr=>by simpa only[LR] using hr
 | .mp id ver,r,hr=>by
  simp only[LR] at hr ⊢;obtain⟨p,pl,hr,hp,hv,hl⟩:=hr;obtain⟨pl',hp',hpl⟩:=hσ.old id pl hp;refine⟨p,pl',hr,hp',?_,fun he=>?_⟩
  · rcases hpl with rfl | h1 <;> omega
  · rcases hpl with rfl | h1
    · exact hl he
    · omega
 | .ptr id ver off,r,hr=>by
  simp only[LR] at hr ⊢;obtain⟨p,pl,hr,hp,hv,hl⟩:=hr;obtain⟨pl',hp',hpl⟩:=hσ.old id pl hp;refine⟨p,pl',hr,hp',?_,fun he=>?_⟩
  · rcases hpl with rfl | h1 <;> omega
  · rcases hpl with rfl | h1
    · exact hl he
    · omega
 | .rp id ver i f,r,hr=>by
  simp only[LR] at hr ⊢;obtain⟨p,pl,hr,hp,hv,hl⟩:=hr;obtain⟨pl',hp',hpl⟩:=hσ.old id pl hp;refine⟨p,pl',hr,hp',?_,fun he=>?_⟩
  · rcases hpl with rfl | h1 <;> omega
  · rcases hpl with rfl | h1
    · exact hl he
    · omega
 | .rs id ver o n,r,hr=>by
  simp only[LR] at hr ⊢;obtain⟨a,len,rc,pl,hr,hp,hv,hl⟩:=hr;obtain⟨pl',hp',hpl⟩:=hσ.old id pl hp;refine⟨a,len,rc,pl',hr,hp',?_,fun he=>?_⟩
  · rcases hpl with rfl | h1 <;> omega
  · rcases hpl with rfl | h1
    · exact hl he
    · omega
 | .ifc t v,r,hr=>by
  simp only[LR] at hr ⊢;obtain⟨x,hr,hx⟩:=hr;exact⟨x,hr,LR.step h hσ v x hx⟩
 | .junk,_,_=>by simp only[LR]
 | .g c v,r,hr=>by
  simp only[LR] at hr ⊢;exact⟨fun hc=>LR.step h hσ v r (hr.1 hc),hr.2⟩
theorem LRs.step {ν:Nu} {w w':World} {X:Nat→Prop} {σ σ':List Pl} (h:Stays (Exc X σ) (Exc X σ') w w') (hσ:Later' σ σ') : ∀ (cs:List LV) (rs:List Value),LRs ν w X σ cs rs→LRs ν w' X σ' cs rs
 | [],[],_=>by simp only[LRs]
 | c::cs,r::rs,hr=>by
  simp only[LRs] at hr ⊢;exact⟨LR.step h hσ c r hr.1,LRs.step h hσ cs rs hr.2⟩
 | [],_::_,hr=>by simp only[LRs] at hr
 | _::_,[],hr=>by simp only[LRs] at hr
end
def Free (fr:Nat×Nat) (n:Nat):Prop:=∀ o,o<n→¬ (fr.1≤o∧o<fr.2)
def FreeR (fr:Nat×Nat) (n sz:Nat):Prop:=Free fr n∧(sz≠1→¬ (fr.1≤n∧n<fr.2)∧n≤9223372036854775807*sz)
theorem FreeR.none {n sz cap:Nat} (hn:n=cap*sz) (h:cap≤9223372036854775807):FreeR (0,0) n sz:=⟨fun o _ h=>by omega,fun _=>⟨fun h=>by omega,by rw[hn]; exact Nat.mul_le_mul_right sz h⟩⟩
def MapR (w:World) (X:Nat→Prop) (vk:Nat):List MapEntry→List (List CV)→Prop
 | [],[]=>True
 | e::es,el::c=>(∃ (s:ByteArray) (cv:CV),el=[.v (.string s),cv]∧e.key = .string s∧aBA cv=vk∧CVR w X cv e.val)∧MapR w X vk es c
 | _,_=>False
theorem MapR.step {w w':World} {X X':Nat→Prop} (h:Stays X X' w w') {vk:Nat} : ∀ (es:List MapEntry) (c:List (List CV)),MapR w X vk es c→MapR w' X' vk es c
 | [],[],_=>trivial
 | e::es,el::c,hm=>by
  simp only[MapR] at hm ⊢;obtain⟨⟨s,cv,h1,h2,h3,h4⟩,h5⟩:=hm;exact⟨⟨s,cv,h1,h2,h3,h4.step h⟩,MapR.step h es c h5⟩
 | [],_::_,hm=>by simp[MapR] at hm
 | _::_,[],hm=>by simp[MapR] at hm
def OR (ν:Nu) (w:World) (X:Nat→Prop) (σ:List Pl) (pl:Pl):LO→Prop
 | .box cs elem=>∃ (b c:Nat) (a:Array Value) (fr:Nat×Nat),pl.at_=some (b,c)∧w.heap[b]? = some (.cells a elem fr)∧Free fr a.size∧LRs ν w X σ cs a.toList
 | .row c elem sz=>pl.sz=sz∧0<sz∧(∀ el∈denC ν c,el.length=sz)∧((pl.at_=none∧denC ν c=[]) ∨
  ∃ (b cap:Nat) (a:Array Value) (fr:Nat×Nat),pl.at_=some (b,cap)∧w.heap[b]? = some (.cells a elem fr)∧FreeR fr a.size sz∧cap*sz≤a.size∧(denC ν c).length≤cap ∧
   ∀ (i:Nat) (el:List CV),(denC ν c)[i]? = some el→∀ (f:Nat) (cv:CV),el[f]? = some cv→∃ r,a[i*sz+f]? = some r∧CVR w (Exc X σ) cv r)
 | .iter s p=>∃ (b c:Nat),pl.at_=some (b,c)∧0≤denI ν p∧w.heap[b]? = some (.stringIter (denS ν s) (denI ν p).toNat)
 | .mp c vk=>∃ (b c0:Nat) (es:Array MapEntry) (clock:Nat),pl.at_=some (b,c0)∧w.heap[b]? = some (.map es clock)∧MapR w (Exc X σ) vk es.toList (denC ν c)
 | .hole=>pl=⟨0,none,0⟩
def Same (pl:Pl) (w w':World):Prop:=∀ b c,pl.at_=some (b,c)→w'.heap[b]? = w.heap[b]?
theorem OR.step {ν:Nu} {w w':World} {X:Nat→Prop} {σ σ':List Pl} (h:Stays (Exc X σ) (Exc X σ') w w') (hσ:Later' σ σ') {pl:Pl} (hs:Same pl w w') (o:LO) (ho:OR ν w X σ pl o):OR ν w' X σ' pl o:=by
 cases o with
 | box cs elem =>
  obtain⟨b,c,a,fr,h1,h2,h3,h4⟩:=ho;exact⟨b,c,a,fr,h1,by rw[hs b c h1]; exact h2,h3,LRs.step h hσ _ _ h4⟩
 | row c elem sz =>
  obtain⟨h1,h2,h3,h4⟩:=ho;refine⟨h1,h2,h3,?_⟩;rcases h4 with h4 | ⟨b,cap,a,fr,g1,g2,g3,g4,g5,g6⟩
  · exact .inl h4
  · refine .inr ⟨b,cap,a,fr,g1,by rw[hs b cap g1]; exact g2,g3,g4,g5,fun i el hi f cv hf=>?_⟩;obtain⟨r,hr,hv⟩:=g6 i el hi f cv hf;exact⟨r,hr,hv.step h⟩
 | iter s p =>
  obtain⟨b,c,h1,h2,h3⟩:=ho;exact⟨b,c,h1,h2,by rw[hs b c h1]; exact h3⟩
 | mp c vk =>
  obtain⟨b,c0,es,clock,h1,h2,h3⟩:=ho;exact⟨b,c0,es,clock,h1,by rw[hs b c0 h1]; exact h2,h3.step h⟩
 | hole=>exact ho
structure Base where
 w:World
 y:Nat→Prop
 gs:List Value
def Base.mine (B:Base) (b:Nat):Prop:=B.w.heap.size≤b∨B.y b
structure Kept (B:Base) (w:World):Prop where
 os:w.os=B.w.os
 tape:w.tape=B.w.tape
 output:w.output=B.w.output
 size:B.w.heap.size≤w.heap.size
 block : ∀ k,k<B.w.heap.size→¬ B.y k→w.heap[k]? = B.w.heap[k]?
 gy : ∀ g∈aEv,¬ B.y g
 ysz : ∀ (b:Nat) (a:Array Value) (e:TypeId) (fr:Nat×Nat),B.w.heap[b]? = some (.cells a e fr)→∃ (a':Array Value) (e':TypeId) (fr':Nat×Nat),w.heap[b]? = some (.cells a' e' fr')∧a'.size=a.size
structure Rel (w0:Base) (X:Nat→Prop) (ν:Nu) (S:St) (σ:List Pl) (a:Act) (w:World):Prop where
 defers:a.defers=[]
 F:LRs ν w X σ S.F a.tmps.toList
 len:σ.length=S.L.length
 L : ∀ (i:Nat) (ob:Ob) (pl:Pl),getO S.L i=some ob→σ[i]? = some pl→pl.ver=ob.ver∧OR ν w X σ pl ob.o
 inj : ∀ (i j:Nat) (p q:Pl) (b c d:Nat),σ[i]? = some p→σ[j]? = some q→p.at_=some (b,c)→q.at_=some (b,d)→i=j
 own : ∀ b,Own σ b→w0.mine b∧b<w.heap.size
 old:Kept w0 w
 ex : ∀ b,X b→b<w0.w.heap.size∧¬ w0.y b
 glo:Glo w0.w
 n:ν.length=S.n
 G:LRs ν w X σ S.G w0.gs
end
end Go.Proofs.YtcdeimjlgpfjiaaGreatDoor
