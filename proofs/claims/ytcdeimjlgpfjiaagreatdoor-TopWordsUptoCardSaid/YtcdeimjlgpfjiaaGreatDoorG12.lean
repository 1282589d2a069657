/- Plain facts: texts as lists of bytes, rows of bytes, wrapped numbers, decimal digits. No condition. -/
import Derived.Test.YtcdeimjlgpfjiaaGreatDoorG10
import Derived.IntWalk
import Derived.Laws.RangeString
import Derived.Laws.RangeAny
import Derived.Test.YtcdeimjlgpfjiaaGreatDoorG11
import Derived.Shelf.Strings.Builder1
import Derived.Shelf.Strings.Builder2
import Derived.Shelf.Strings.OnBuilder
import Derived.Shelf.Small.Strs
import Derived.Shelf.Small.Wraps
import Derived.Shelf.Strings.BuilderF
import Derived.Shelf.Strings.BuilderK
import Derived.Shelf.Strings.Builder2Cap
import Derived.Shelf.Strings.Search1
import Derived.Shelf.Strings.Search2
import Derived.Shelf.Strings.Search3
import Derived.Shelf.Strings.Count
import Derived.Shelf.LaysM
import Derived.Shelf.Strings.Shaped
import Derived.Shelf.Strings.Prefix
import Derived.Shelf.Strings.Split
import Derived.Shelf.Strings.Replace
import Derived.Shelf.Strings.SplitShaped
import Derived.Shelf.Unicode.DecodeSlow
import Derived.Shelf.Strings.BuilderCap
import Derived.Ground.Names2Prog
import Derived.Shelf.Slices.SearchI
import Derived.Test.YtcdeimjlgpfjiaaGreatDoorProg
import Derived.Lib.IndexAny
set_option linter.unusedSimpArgs false
set_option linter.unusedVariables false
namespace Go.Proofs.YtcdeimjlgpfjiaaGreatDoor
section
open Go.RowKit Go.IntWalk
def bs (l:List UInt8):ByteArray:=⟨l.toArray⟩
theorem aNH (s:ByteArray):s=bs s.data.toList:=by cases s; simp[bs]
theorem aAG (l:List UInt8):ByteArray.mk l.toArray=bs l:=rfl
theorem aAg (l:List UInt8):(bs l).size=l.length:=by simp[bs,ByteArray.size]
theorem aBQ (l:List UInt8):(bs l).data.toList=l:=by simp[bs]
theorem aAh (l:List UInt8):(bs l).toList=l:=by rw[Lib.toList_data,aBQ]
theorem aAu (l m:List UInt8):bs l=bs m↔l=m:=by
 constructor
 · intro h
   have:=congrArg (fun s:ByteArray=>s.data.toList) h
   simpa[bs] using this
 · intro h; rw[h]
theorem aSI {a b:ByteArray} (h:a.data.toList=b.data.toList):a=b:=by rw[aNH a,aNH b,h]
theorem aAi (l m:List UInt8):bs l++bs m=bs (l++m):=by
 apply aSI;rw[aBQ];simp[bs]
theorem aAT (l:List UInt8) (a b:Nat):(bs l).extract a b=bs ((l.take b).drop a):=by
 apply aSI;rw[aBQ,ByteArray.data_extract];simp[bs,List.drop_take]
theorem aAr (l:List UInt8) (i:Int):aAk (bs l) i=((l.getD i.toNat 0).toNat:Int):=by
 simp[aAk,bs,List.getD_eq_getElem?_getD,Array.getD_eq_getD_getElem?]
theorem aVg (l m:List UInt8):((bs l).toList==(bs m).toList)=(l==m):=by rw[aAh,aAh]
def bc (l:List UInt8):List (List CV):=l.map fun b=>[.v (.int .u8 (b.toNat:Int))]
theorem aRy (s:ByteArray):aAD s=bc s.data.toList:=rfl
theorem aLZ (l:List UInt8):aAD (bs l)=bc l:=by rw[aRy,aBQ]
theorem aBu (l:List UInt8):(bc l).length=l.length:=by simp[bc]
theorem aER (l m:List UInt8):bc l++bc m=bc (l++m):=by simp[bc]
theorem aIP (l:List UInt8) (n:Nat):(bc l).take n=bc (l.take n):=by simp[bc]
theorem aPa (l:List UInt8) (n:Nat):(bc l).drop n=bc (l.drop n):=by simp[bc]
theorem aHG (l:List UInt8):ByteArray.mk ((bc l).map fun el=>UInt8.ofNat (el.getD 0 default).int.toNat).toArray=bs l:=by
 unfold bs bc;rw[List.map_map]
 congr 2
 conv=>rhs; rw[←List.map_id l]
 apply List.map_congr_left;intro b _;simp[CV.int]
theorem aTz (l:List UInt8):bs ((bc l).map fun el=>UInt8.ofNat (el.getD 0 default).int.toNat)=bs l:=aHG l
theorem aEq (l:List UInt8) : ∀ el∈bc l,∃ z:Int,el=[.v (.int .u8 z)]:=by
 intro el h;simp only[bc,List.mem_map] at h;obtain⟨b,_,rfl⟩:=h;exact⟨_,rfl⟩
theorem aLK (l:List UInt8) (i:Nat) (h:i<l.length):(bc l).getD i []=[.v (.int .u8 ((l.getD i 0).toNat:Int))]:=by
 simp[bc,List.getD_eq_getElem?_getD,h]
theorem aUR (l:List UInt8) (i:Int) (h0:0≤i) (h:i<l.length):(aAa (bc l) i 0).int=((l.getD i.toNat 0).toNat:Int):=by
 unfold aAa;rw[aLK l i.toNat (by omega)];rfl
theorem aOz (l:List UInt8) (i:Int) (h0:0≤i) (h:i<l.length):[5]=((((bc l).getD i.toNat []).drop 0).take 1).map aBA:=by
 rw[aLK l i.toNat (by omega)];rfl
theorem aMl (l:List UInt8) (i:Nat) (z:Int) (b:UInt8) (hz:z=(b.toNat:Int)):(bc l).set i (aEk ((bc l).getD i []) 0 [.v (.int .u8 z)])=bc (l.set i b):=by
 subst hz;by_cases h:i<l.length
 · rw[aLK l i h];simp[aEk,bc,List.map_set]
 · rw[List.set_eq_of_length_le (by rw[aBu]; omega),List.set_eq_of_length_le (by omega)]
theorem aHX {a b:UInt8} (h:(a.toNat:Int)=(b.toNat:Int)):a=b:=UInt8.toNat_inj.1 (by omega)
def dig1 (n:Nat):UInt8:=UInt8.ofNat (48+n % 10)
def digs (n:Nat):List UInt8:=if _h:n<10 then [dig1 n] else digs (n / 10)++[dig1 n]
termination_by n
decreasing_by omega
theorem aDU {n:Nat} (h:n<10):digs n=[dig1 n]:=by rw[digs]; simp[h]
theorem aEx {n:Nat} (h : ¬ n<10):digs n=digs (n / 10)++[dig1 n]:=by rw[digs]; simp[h]
theorem aGn (n:Nat):0<(digs n).length:=by
 by_cases h:n<10
 · rw[aDU h]; simp
 · rw[aEx h]; simp
theorem aMa : ∀ (k n:Nat),n<10 ^ (k+1)→(digs n).length≤k+1
 | 0,n,h=>by rw[aDU (by simpa using h)]; simp
 | k+1,n,h=>by
  by_cases h1:n<10
  · rw[aDU h1]; simp
  · rw[aEx h1]
    have:=aMa k (n / 10) (by rw[Nat.pow_succ] at h; omega)
    simp
    omega
theorem aIj (n:Nat) (h:n≤9223372036854775808):(digs n).length≤19:=aMa 18 n (by omega)
theorem aCV (n:Nat):(dig1 n).toNat=48+n % 10:=by
 unfold dig1;rw[UInt8.toNat_ofNat'];omega
def numL (n:Int):List UInt8:=if n<0 then 45::digs n.natAbs else digs n.natAbs
theorem aDb (n:Int) (h : -9223372036854775808≤n∧n≤9223372036854775807):(numL n).length≤20:=by
 unfold numL
 have:=aIj n.natAbs (by omega)
 split
 · simp; omega
 · omega
def NumAt (N r:Nat) (first:Bool) (D:List UInt8):Prop :=
 (first=true∧D=[]∧r=N)∨(first=false∧D≠[]∧(r=0→digs N=D)∧(r≠0→digs N=digs r++D))
theorem NumAt.room {N r:Nat} {first:Bool} {D:List UInt8} (h:NumAt N r first D) (hN:N≤9223372036854775808) (hgo:first=true∨r≠0):D.length≤18:=by
 have hl:=aIj N hN;rcases h with ⟨h1,h2,h3⟩ | ⟨h1,h2,h3,h4⟩
 · simp[h2]
 · have:=aGn r
   rcases hgo with hg | hg
   · rw[h1] at hg; cases hg
   · rw[h4 hg] at hl;simp at hl;omega
theorem NumAt.step {N r:Nat} {first:Bool} {D:List UInt8} (h:NumAt N r first D) (hgo:first=true∨r≠0):NumAt N (r / 10) false (dig1 r::D):=by
 have key:(r / 10=0→digs r=[dig1 r])∧(r / 10≠0→digs r=digs (r / 10)++[dig1 r]) :=
  ⟨fun h=>aDU (by omega),fun h=>aEx (by omega)⟩
 refine .inr ⟨rfl,by simp,fun h0=>?_,fun h0=>?_⟩
 · rcases h with ⟨h1,h2,h3⟩ | ⟨h1,h2,h3,h4⟩
   · subst h2 h3; rw[key.1 h0]
   · rcases hgo with hg | hg
     · rw[h1] at hg; cases hg
     · rw[h4 hg,key.1 h0]; simp
 · rcases h with ⟨h1,h2,h3⟩ | ⟨h1,h2,h3,h4⟩
   · subst h2 h3; rw[key.2 h0]
   · rcases hgo with hg | hg
     · rw[h1] at hg; cases hg
     · rw[h4 hg,key.2 h0]; simp
theorem NumAt.short {N r p:Nat} {first:Bool} {D:List UInt8} (h:NumAt N r first D) (hp:p+D.length=20) (hf:first=false):p<20:=by
 rcases h with ⟨h1,h2,h3⟩ | ⟨h1,h2,h3,h4⟩
 · rw[hf] at h1; cases h1
 · have:D.length≠0:=fun e=>h2 (List.eq_nil_of_length_eq_zero e)
   omega
theorem NumAt.done {N r:Nat} {first:Bool} {D:List UInt8} (h:NumAt N r first D) (hf:first=false) (hr:r=0):digs N=D:=by
 rcases h with ⟨h1,h2,h3⟩ | ⟨h1,h2,h3,h4⟩
 · rw[hf] at h1; cases h1
 · exact h3 hr
theorem NumAt.start (N:Nat):NumAt N N true []:=.inl ⟨rfl,rfl,rfl⟩
end
section
open Go.RowKit Go.IntWalk
def aHI (D:List UInt8):List UInt8:=List.replicate (20 - D.length) 0++D
theorem aEQ (D:List UInt8) (h:D.length≤20):(aHI D).length=20:=by simp[aHI]; omega
theorem aKD (D:List UInt8) (b:UInt8) (h:D.length≤19):(aHI D).set (19 - D.length) b=aHI (b::D):=by
 have e:20 - D.length=(19 - D.length)+1:=by omega
 unfold aHI;rw[e,List.replicate_succ',List.append_assoc,List.set_append_right _ _ (by simp)]
 simp
theorem aIw (D:List UInt8) (h:D.length≤20):(aHI D).drop (20 - D.length)=D:=by
 unfold aHI;rw[List.drop_append_of_le_length (by simp)]
 simp
def NumI (n:Int) (rows:List (List CV)) (r p:Int) (first:Bool) (k:Nat):Prop :=
 ∃ (D:List UInt8),NumAt n.natAbs r.toNat first D∧0≤r∧r≤9223372036854775808∧p=20 - (D.length:Int)∧D.length≤19∧rows=bc (aHI D)∧k=r.toNat+(if first then 1 else 0)
theorem aDD (n:Int) (h : -9223372036854775808≤n∧n≤9223372036854775807):FnC Tryz.prog 14 [.c (.v (.int .i64 n))] (.c (.v (.string (bs (numL n))))):=by
 have hN:n.natAbs≤9223372036854775808:=by omega
 have start : ∀ r:Int,r=n.natAbs→NumI n (bc (aHI [])) r 20 true (n.natAbs+1):=fun r hr =>
  ⟨[],by subst hr; exact NumAt.start _,by omega,by omega,by simp,by simp,rfl,by subst hr; simp⟩
 have step : ∀ rows r p first k,NumI n rows r p first k→(first=true∨0<r)→IntKind.wrap .i64 (p - 1)=p - 1∧0≤p - 1∧p - 1<20∧rows.length=20 ∧
  ∃ k',k'<k∧NumI n (rows.set (p - 1).toNat (aEk (rows.getD (p - 1).toNat []) 0 [.v (.int .u8 (IntKind.wrap .u8 (48+IntKind.wrap .u8 (Int.tmod r 10))))])) (IntKind.wrap .u64 (Int.tdiv r 10)) (p - 1) false k':=by
  rintro rows r p first k ⟨D,hD,h0,h1,hp,hl,rfl,rfl⟩ hgo
  have hgo':first=true∨r.toNat≠0:=hgo.imp id fun h=>by omega
  have hroom:=hD.room hN hgo';have hw:IntKind.wrap .i64 (p - 1)=p - 1:=i64_in _ (by omega);refine⟨hw,by omega,by omega,by rw[aBu,aEQ _ (by omega)],(r.toNat / 10),?_,dig1 r.toNat::D,?_,?_,?_,?_,?_,?_,?_⟩
  · rcases hgo with hf | hf
    · subst hf; simp; omega
    · omega
  · have e:(IntKind.wrap .u64 (Int.tdiv r 10)).toNat=r.toNat / 10:=by rw[u64_quo _ _ (by omega)]; omega
    rw[e];exact hD.step hgo'
  · rw[u64_quo _ _ (by omega)]; omega
  · rw[u64_quo _ _ (by omega)]; omega
  · simp; omega
  · simp; omega
  · have e1:(p - 1).toNat=19 - D.length:=by omega
    have e2:Int.tmod r 10=((r.toNat % 10:Nat):Int):=by rw[Int.tmod_eq_emod_of_nonneg h0]; omega
    rw[e1,aMl (b:=dig1 r.toNat),aKD _ _ hl];have e3:IntKind.wrap .u8 ((r.toNat % 10:Nat):Int)=((r.toNat % 10:Nat):Int):=u8_in _ (by omega);rw[aCV,e2,e3,u8_in _ (by omega)];omega
  · rw[u64_quo _ _ (by omega)]; simp; omega
 have fin : ∀ rows r p first k,NumI n rows r p first k→¬ (first=true∨0<r)→∃ D,digs n.natAbs=D∧D.length≤19∧p=20 - (D.length:Int)∧1≤D.length∧rows=bc (aHI D):=by
  rintro rows r p first k ⟨D,hD,h0,h1,hp,hl,rfl,rfl⟩ hno
  have hf:first=false:=by cases first <;> simp_all
  refine⟨D,hD.done hf (by omega),hl,hp,?_,rfl⟩
  have:=aGn n.natAbs
  rw[hD.done hf (by omega)] at this;omega
 refine w14 n ?_
 constructor
 · intro hneg x1 hx1;subst hx1;refine⟨NumI n,⟨n.natAbs+1,start _ ?_⟩,?_⟩
   · have e:(n.natAbs:Int) = -n:=by omega
     have e1:IntKind.wrap .u64 n=n+18446744073709551616:=by rw[IntKind.wrap_u64]; omega
     have e2:IntKind.wrap .u64 (0 - (n+18446744073709551616)) = -n:=by rw[IntKind.wrap_u64]; omega
     rw[e1,e2,e]
   intro k rows r p first hI
   constructor
   · intro hgo
     obtain⟨h1,h2,h3,h4,k',hk',hI'⟩:=step rows r p first k hI hgo
     rw[h1,h4];refine⟨by omega,by omega,by omega,fun x6 hx6=>⟨by omega,k',hk',?_⟩⟩;subst hx6;exact hI'
   · intro hno
     obtain⟨D,hD,hl,hp,hl1,rfl⟩:=fin rows r p first k hI hno
     constructor
     · intro _;have hw:IntKind.wrap .i64 (p - 1)=p - 1:=i64_in _ (by omega)
       have e1:(p - 1).toNat=19 - D.length:=by omega
       rw[hw,e1,aBu,aEQ _ (by omega)];refine⟨by omega,by omega,fun x6 hx6=>?_⟩;rw[aMl (b:=45) (hz:=by decide),aKD _ _ hl] at hx6;subst hx6
       have e2:(20 - (p - 1)).toNat=D.length+1:=by omega
       have e3:(aHI (45::D)).drop (19 - D.length)=45::D:=by
        have:=aIw (45::D) (by simp; omega)
        simpa[Nat.sub_sub,Nat.add_comm] using this
       have e4:(45::D).take (D.length+1)=45::D:=by simp
       rw[aBu,aEQ _ (by simp; omega),aPa,aIP,e2,e3,e4];refine⟨by omega,by omega,by omega,aEq _,?_⟩;rw[aHG,numL,if_pos hneg,hD]
     · intro h; exact absurd hneg h
 · intro hneg x1 hx1;subst hx1;refine⟨NumI n,⟨n.natAbs+1,start _ ?_⟩,?_⟩
   · rw[u64_in _ (by omega)]; omega
   intro k rows r p first hI
   constructor
   · intro hgo
     obtain⟨h1,h2,h3,h4,k',hk',hI'⟩:=step rows r p first k hI hgo
     rw[h1,h4];refine⟨by omega,by omega,by omega,fun x6 hx6=>⟨by omega,k',hk',?_⟩⟩;subst hx6;exact hI'
   · intro hno
     obtain⟨D,hD,hl,hp,hl1,rfl⟩:=fin rows r p first k hI hno
     refine⟨fun h=>absurd h hneg,fun _=>?_⟩
     have e1:p.toNat=20 - D.length:=by omega
     have e2:(20 - p).toNat=D.length:=by omega
     rw[aBu,aEQ _ (by omega),e1,e2,aPa,aIP,aIw _ (by omega),List.take_length];refine⟨by omega,by omega,by omega,aEq _,?_⟩;rw[aHG,numL,if_neg hneg,hD]
end
section
open Go.RowKit Go.IntWalk
def aAI (c:UInt8):Bool:=decide (48≤c.toNat)&&decide (c.toNat≤57)
def aBz (l:List UInt8):Bool:=l.all aAI&&(l.length==1||(decide (1<l.length) && !(l.getD 0 0==48)))
def valG (n:Nat) (l:List UInt8):Nat:=l.foldl (fun n c=>10*n+(c.toNat - 48)) n
def valL (l:List UInt8):Nat:=valG 0 l
def Sz (l:List UInt8):Prop:=l.length≤9223372036854775807
theorem aIF (n:Nat) (l m:List UInt8):valG n (l++m)=valG (valG n l) m:=by simp[valG]
theorem aMK (n:Nat) (c:UInt8):valG n [c]=10*n+(c.toNat - 48):=rfl
theorem aT2 (m:List UInt8) : ∀ (n:Nat),m.all aAI=true→valG n m<(n+1)*10 ^ m.length∧n*10 ^ m.length≤valG n m:=by
 induction m with
 | nil=>intro n _; simp[valG]
 | cons c m ih =>
  intro n h;simp only[List.all_cons,Bool.and_eq_true] at h;obtain⟨h1,h2⟩:=h;simp only[aAI,Bool.and_eq_true,decide_eq_true_eq] at h1
  have:=ih (10*n+(c.toNat - 48)) h2
  have e:valG n (c::m)=valG (10*n+(c.toNat - 48)) m:=rfl;rw[e,List.length_cons,Nat.pow_succ]
  have e1:(n+1)*(10 ^ m.length*10)=(10*n+10)*10 ^ m.length:=by
   rw[Nat.mul_comm (10 ^ m.length) 10,←Nat.mul_assoc]; congr 1; omega
  have e2:n*(10 ^ m.length*10)=(10*n)*10 ^ m.length:=by
   rw[Nat.mul_comm (10 ^ m.length) 10,←Nat.mul_assoc]; congr 1; omega
  rw[e1,e2];refine⟨Nat.lt_of_lt_of_le this.1 (Nat.mul_le_mul_right _ (by omega)),Nat.le_trans (Nat.mul_le_mul_right _ (by omega)) this.2⟩
def aB5 (l:List UInt8):Int×Int :=
 if l.head? = some 45 then
  (if aBz l.tail=true∧l.tail≠[48] then (if valL l.tail≤9223372036854775808 then (-(valL l.tail:Int),0) else (0,9)) else (0,8))
 else (if aBz l=true then (if valL l≤9223372036854775807 then ((valL l:Int),0) else (0,9)) else (0,8))
theorem aNx {l:List UInt8} (h:l.all aAI=true) {i:Nat} (hi:i<l.length):48≤(l.getD i 0).toNat∧(l.getD i 0).toNat≤57:=by
 have:=List.all_eq_true.1 h (l.getD i 0) (by simp[List.getD_eq_getElem?_getD,hi])
 simpa[aAI] using this
theorem aSj {l:List UInt8} {i:Nat} (h:(l.take i).all aAI=true) (hi:i<l.length) (hd:48≤(l.getD i 0).toNat∧(l.getD i 0).toNat≤57):(l.take (i+1)).all aAI=true:=by
 rw[List.take_add_one,List.all_append,h];simp[List.getD_eq_getElem?_getD,hi] at hd;simp[hi,aAI,hd]
theorem aTN {l:List UInt8} {i:Nat} (hi:i<l.length) (hd : ¬ (48≤(l.getD i 0).toNat∧(l.getD i 0).toNat≤57)):l.all aAI=false:=by
 cases h:l.all aAI
 · rfl
 · exact absurd (aNx h hi) hd
theorem aTL (c:Int):FnC Tryz.prog 70 [.c (.v (.int .i32 c))] (.c (.v (.bool (decide (48≤c∧c≤57))))):=by
 refine w70 c ?_;by_cases h1:48≤c <;> by_cases h2:c≤57 <;> simp[h1,h2]
theorem aFz (l:List UInt8) (i:Nat) (h:i<l.length) (ha:(l.getD i 0).toNat<128):Utf8.decode (bs l) i=((l.getD i 0).toNat,1):=by
 have e:(bs l)[i]'(by rw[aAg]; exact h)=l.getD i 0:=by
  show (bs l).data[i]'_=_;simp[bs,List.getD_eq_getElem?_getD,h]
 rw[decode_ascii (bs l) i (by rw[aAg]; exact h) (by rw[e]; exact ha),e]
theorem aNd (l:List UInt8) (i:Nat) (h:i<l.length) (ha:128≤(l.getD i 0).toNat):128≤(Utf8.decode (bs l) i).1∧1≤(Utf8.decode (bs l) i).2:=by
 have e:(bs l)[i]'(by rw[aAg]; exact h)=l.getD i 0:=by
  show (bs l).data[i]'_=_;simp[bs,List.getD_eq_getElem?_getD,h]
 exact decode_high (bs l) i (by rw[aAg]; exact h) (by rw[e]; exact ha)
theorem aPh (l:List UInt8) (i:Nat) (h:i<l.length):(48≤(((Utf8.decode (bs l) i).1:Nat):Int)∧(((Utf8.decode (bs l) i).1:Nat):Int)≤57)↔(48≤(l.getD i 0).toNat∧(l.getD i 0).toNat≤57):=by
 by_cases ha:(l.getD i 0).toNat<128
 · rw[aFz l i h ha]
   constructor <;> intro h <;> omega
 · have:=aNd l i h (by omega)
   constructor <;> intro h <;> omega
theorem aPt (l:List UInt8) (hs:Sz l):FnC Tryz.prog 48 [.c (.v (.string (bs l)))] (.c (.v (.bool (aBz l)))):=by
 unfold Sz at hs;refine w48 (bs l) ?_;simp only[aAg,aAr,aAG,aAu];refine⟨fun h=>by omega,fun h=>?_,fun h=>?_⟩
 · congr 3
   rcases h with rfl | ⟨h1,h2⟩
   · simp[aBz]
   · have h2:l.getD 0 0=48:=aHX (b:=48) h2
     have h3:(l.length==1)=false:=by simp; omega
     have h4:l[0]?.getD 0=48:=h2;simp[aBz,h3,h4]
 have hne:l≠[]:=fun e=>h (.inl e);have hpos:0<l.length:=List.length_pos_iff.2 hne
 have hd0:(l.length==1||(decide (1<l.length) && !(l.getD 0 0==48)))=true:=by
  by_cases h1:l.length=1
  · simp[h1]
  · have h2:1<l.length:=by omega
    have h3 : ¬ l.getD 0 0=48:=fun e=>h (.inr ⟨by omega,by
     show ((l.getD 0 0).toNat:Int)=48;rw[e]; rfl⟩)
    have h4 : ¬ l[0]?.getD 0=48:=h3;simp[h2,h4]
 refine⟨fun i k=>0≤i∧i≤l.length∧(l.take i.toNat).all aAI=true∧k=l.length - i.toNat,⟨_,by omega,by omega,by simp,rfl⟩,?_⟩;rintro k i ⟨h0,h1,h2,rfl⟩
 constructor
 · intro hi
   have hi':i.toNat<l.length:=by omega
   refine⟨_,aTL _,fun hb=>?_,fun hb=>?_⟩
   · simp only[decide_eq_true_eq,aPh l _ hi'] at hb;rw[aBz,aTN hi' hb];rfl
   · simp only[decide_eq_true_eq,aPh l _ hi',Classical.not_not] at hb;rw[aFz l _ hi' (by omega)];refine⟨_,?_,by omega,by simp; omega,?_,rfl⟩
     · simp; omega
     · have e:(i+((1:Nat):Int)).toNat=i.toNat+1:=by omega
       rw[e];exact aSj h2 hi' hb
 · intro hi
   have e:i.toNat=l.length:=by omega
   rw[e,List.take_length] at h2;simp only[aBz,h2,hd0,Bool.and_self]
end
section
open Go.RowKit Go.IntWalk
theorem aQT (p l:List UInt8):(if decide ((p.length:Int)≤(l.length:Int))=true then (bs (List.drop 0 (List.take p.length l))).toList==(bs p).toList else false)=p.isPrefixOf l:=by
 rw[aAh,aAh,List.drop_zero];by_cases h:p.length≤l.length
 · have h1:(p.length:Int)≤l.length:=by omega
   simp only[h1,decide_true,if_true];rw[Bool.eq_iff_iff,beq_iff_eq,List.isPrefixOf_iff_prefix,List.prefix_iff_eq_take]
   constructor <;> intro h <;> exact h.symm
 · have h1 : ¬ (p.length:Int)≤l.length:=by omega
   simp only[h1,decide_false,Bool.false_eq_true,if_false]
   symm
   rw[Bool.eq_false_iff];intro hp
   have:=(List.isPrefixOf_iff_prefix.1 hp).length_le
   omega
theorem aLi (l p:List UInt8):FnC Tryz.prog 97 [.c (.v (.string (bs l))),.c (.v (.string (bs p)))] (.c (.v (.bool (p.isPrefixOf l)))):=by
 refine w97 (bs l) (bs p) ?_;simp only[aAg,aAT,Int.toNat_natCast];refine⟨fun h=>by omega,?_⟩
 congr 3
 exact aQT p l
theorem aJQ (l p:List UInt8):FnC Tryz.prog 69 [.c (.v (.string (bs l))),.c (.v (.string (bs p)))] (.tup [.c (.v (.string (bs (if p.isPrefixOf l then l.drop p.length else l)))),.c (.v (.bool (p.isPrefixOf l)))]):=by
 refine w69 (bs l) (bs p) ?_;refine⟨_,aLi l p,fun h=>?_,fun h=>?_⟩
 · have:p.isPrefixOf l=false:=by rw[Bool.eq_false_iff]; exact h
   simp[this]
 · have h1:p.isPrefixOf l=true:=by simpa using h
   have:=(List.isPrefixOf_iff_prefix.1 h1).length_le
   simp only[aAg,aAT,Int.toNat_natCast,List.take_length,h1,if_true];exact⟨by omega,trivial⟩
theorem aL2 (l p:List UInt8):FnC Tryz.prog 47 [.c (.v (.string (bs l))),.c (.v (.string (bs p)))] (.tup [.c (.v (.string (bs (if p.isPrefixOf l then l.drop p.length else l)))),.c (.v (.bool (p.isPrefixOf l)))]):=by
 refine w47 (bs l) (bs p) ?_;exact⟨_,_,aJQ l p,rfl⟩
theorem aKB (d:List UInt8) (hs:Sz d) (hd:d.all aAI=true) (most:Int) (hm:most=9223372036854775807∨most=9223372036854775808) (pos n:Int) (h0:0≤pos) (h1:pos<d.length) (hn:n=(valL (d.take pos.toNat):Int)) (hle:n≤most) :
 ∃ c:Int,0≤c∧c≤9∧IntKind.wrap .u64 (IntKind.wrap .i32 ((((Utf8.decode (bs d) pos.toNat).1:Nat):Int) - 48))=c∧IntKind.wrap .u64 (Int.tdiv (IntKind.wrap .u64 (most - c)) 10)=(most - c) / 10∧((Utf8.decode (bs d) pos.toNat).2:Int)=1 ∧
  (valL (d.take (pos.toNat+1)):Int)=10*n+c∧((most - c) / 10<n→most<(valL d:Int))∧(¬ (most - c) / 10<n→10*n+c≤most∧IntKind.wrap .u64 (IntKind.wrap .u64 (10*n)+c)=10*n+c):=by
 have hi:pos.toNat<d.length:=by omega
 have hg:=aNx hd hi;rw[aFz d _ hi (by omega)]
 have hv:(valL (d.take (pos.toNat+1)):Int)=10*n+(((d.getD pos.toNat 0).toNat - 48:Nat):Int):=by
  rw[List.take_add_one,valL,aIF,hn]
  have:d[pos.toNat]?.toList=[d.getD pos.toNat 0]:=by simp[List.getD_eq_getElem?_getD,hi]
  rw[this,aMK];simp[valL]
 refine⟨(((d.getD pos.toNat 0).toNat - 48:Nat):Int),by omega,by omega,?_,?_,rfl,hv,fun h=>?_,fun h=>?_⟩
 · rw[i32_in _ (by simp only[]; omega),u64_in _ (by simp only[]; omega)];simp only[];omega
 · rw[u64_in (most - _) (by omega),u64_quo _ _ (by omega)]
 · have hmono:valL (d.take (pos.toNat+1))≤valL d:=by
    conv=>rhs; rw[←List.take_append_drop (pos.toNat+1) d,valL,aIF]
    have:=aT2 (d.drop (pos.toNat+1)) (valG 0 (d.take (pos.toNat+1))) (by
     rw[List.all_eq_true] at hd ⊢;exact fun x hx=>hd x (List.mem_of_mem_drop hx))
    have h2:=this.2
    have:valG 0 (d.take (pos.toNat+1))≤valG 0 (d.take (pos.toNat+1))*10 ^ (d.drop (pos.toNat+1)).length:=Nat.le_mul_of_pos_right _ (Nat.pow_pos (by omega))
    unfold valL;omega
   omega
 · have:10*n+(((d.getD pos.toNat 0).toNat - 48:Nat):Int)≤most:=by omega
   refine⟨this,?_⟩;rw[u64_in (10*n) (by omega),u64_in _ (by omega)]
theorem aLu {l:List UInt8} (h:aBz l=true):l.all aAI=true:=by
 simp only[aBz,Bool.and_eq_true] at h;exact h.1
theorem aCs (l:List UInt8) (hs:Sz l):FnC Tryz.prog 29 [.c (.v (.string (bs l)))] (.tup [.c (.v (.int .i64 (aB5 l).1)),.c (.v (.int .i64 (aB5 l).2))]):=by
 refine w29 (bs l) ?_;simp only[aAG,aAu]
 have hpre:([45]:List UInt8).isPrefixOf l=decide (l.head? = some 45):=by
  cases l with
  | nil=>rfl
  | cons a l =>
   have:((45:UInt8)==a)=decide (a=45):=by
    rw[Bool.eq_iff_iff]; simp only[beq_iff_eq,decide_eq_true_eq]; exact⟨fun h=>h.symm,fun h=>h.symm⟩
   simp only[List.isPrefixOf,this,Bool.and_true,List.head?_cons,Option.some.injEq]
 generalize hd:(if ([45]:List UInt8).isPrefixOf l then l.drop ([45]:List UInt8).length else l)=d
 have hsd:Sz d:=by
  subst hd;unfold Sz at hs ⊢;split
  · simp; omega
  · exact hs
 have hcut:=aL2 l [45];rw[hd] at hcut;refine⟨_,_,hcut,_,aPt d hsd,?_⟩;rw[hpre] at hd ⊢;simp only[decide_eq_true_eq] at hd
 have hR:aB5 l=if l.head? = some 45 then (if aBz d=true∧d≠[48] then (if valL d≤9223372036854775808 then (-(valL d:Int),0) else (0,9)) else (0,8)) else (if aBz d=true then (if valL d≤9223372036854775807 then ((valL d:Int),0) else (0,9)) else (0,8)):=by
  unfold aB5;split
  · rename_i h;rw[if_pos h] at hd;rw[←hd,List.length_singleton,List.drop_one]
  · rename_i h;rw[if_neg h] at hd;rw[←hd]
 rw[hR];clear hR hcut hpre;simp only[decide_eq_true_eq];refine⟨fun h=>?_,fun h=>?_⟩
 · by_cases hb:l.head? = some 45
   · simp only[hb,if_true];rw[if_neg (fun hc=>by rcases h with h | h; exact h hc.1; exact hc.2 ((aAu _ _).1 h.2))]
   · simp only[hb,if_false];rw[if_neg (fun hc=>by rcases h with h | h; exact h hc; exact hb h.1)]
 have hdig:aBz d=true:=Classical.byContradiction fun hc=>h (.inl hc);have hall:=aLu hdig;refine⟨fun hb=>?_,fun hb=>?_⟩
 · have hne:d≠[48]:=fun e=>h (.inr ⟨hb,(aAu _ _).2 e⟩);simp only[hb,if_true,hdig,hne,ne_eq,not_false_eq_true,and_self];refine⟨fun pos n k=>0≤pos∧pos≤d.length∧n=(valL (d.take pos.toNat):Int)∧n≤9223372036854775808∧k=d.length - pos.toNat,⟨_,by omega,by omega,by simp[valL,valG],by omega,rfl⟩,?_⟩;rintro k pos n ⟨h0,h1,h2,h3,rfl⟩;rw[aAg];refine⟨fun hlt=>⟨by omega,?_⟩,fun hlt=>⟨fun _=>?_,fun hc=>absurd trivial hc⟩⟩
   · obtain⟨c,c0,c9,hc,hq,hw,hv,hov,hok⟩:=aKB d hsd hall 9223372036854775808 (.inr rfl) pos n h0 hlt h2 h3;rw[hc,hq,hw];refine⟨fun hlt=>?_,fun hlt=>?_⟩
     · rw[if_neg (by have:=hov hlt; omega)]
     · obtain⟨hl,hw2⟩:=hok hlt;rw[hw2];refine⟨_,?_,by omega,by omega,?_,hl,rfl⟩
       · omega
       · rw[show (pos+1).toNat=pos.toNat+1 by omega,hv]
   · have e:pos.toNat=d.length:=by omega
     rw[e,List.take_length] at h2;rw[if_pos (by omega)]
     have e2:IntKind.wrap .i64 (IntKind.wrap .u64 (0 - n)) = -n:=by rw[IntKind.wrap_u64,IntKind.wrap_i64]; (try unfold wrap64); omega
     rw[e2,h2]
 · simp only[hb,if_false,hdig,if_true];refine⟨fun pos n k=>0≤pos∧pos≤d.length∧n=(valL (d.take pos.toNat):Int)∧n≤9223372036854775807∧k=d.length - pos.toNat,⟨_,by omega,by omega,by simp[valL,valG],by omega,rfl⟩,?_⟩;rintro k pos n ⟨h0,h1,h2,h3,rfl⟩;rw[aAg];refine⟨fun hlt=>⟨by omega,?_⟩,fun hlt=>⟨fun hc=>absurd hc (by simp),fun _=>?_⟩⟩
   · obtain⟨c,c0,c9,hc,hq,hw,hv,hov,hok⟩:=aKB d hsd hall 9223372036854775807 (.inl rfl) pos n h0 hlt h2 h3;rw[hc,hq,hw];refine⟨fun hlt=>?_,fun hlt=>?_⟩
     · rw[if_neg (by have:=hov hlt; omega)]
     · obtain⟨hl,hw2⟩:=hok hlt;rw[hw2];refine⟨_,?_,by omega,by omega,?_,hl,rfl⟩
       · omega
       · rw[show (pos+1).toNat=pos.toNat+1 by omega,hv]
   · have e:pos.toNat=d.length:=by omega
     rw[e,List.take_length] at h2;rw[if_pos (by omega),i64_in _ (by omega),h2]
end
section
open Go.RowKit Go.IntWalk
end
section
open Go.RowKit
def aEu (n:Int):Bool:=decide (-9223372036854775808≤n∧n≤9223372036854775807)
theorem aCY (n:Int):aEu n=true↔-9223372036854775808≤n∧n≤9223372036854775807:=by simp[aEu]
theorem aD7 (n:Int) (h : -9223372036854775808≤n∧n≤9223372036854775807):wrap64 n=n:=by unfold wrap64; omega
theorem aHU (n:Int) : -9223372036854775808≤wrap64 n∧wrap64 n≤9223372036854775807:=by unfold wrap64; omega
theorem aNT (n:Int) : ∃ k,n=wrap64 n+18446744073709551616*k:=⟨(n+9223372036854775808) / 18446744073709551616,by unfold wrap64; omega⟩
theorem aEz {p q:Bool} (h:p=true↔q=true):p=q:=by cases p <;> cases q <;> simp_all
theorem aO4 (n b:Int) (hb:b≠0) : ∃ r,n=b*n.tdiv b+r∧-(b.natAbs:Int)<r∧r<(b.natAbs:Int):=by
 refine⟨n.tmod b,(Int.mul_tdiv_add_tmod n b).symm,?_,?_⟩
 · have h:=Int.natAbs_tmod n b;have h2:=Nat.mod_lt n.natAbs (Int.natAbs_pos.2 hb);omega
 · have h:=Int.natAbs_tmod n b;have h2:=Nat.mod_lt n.natAbs (Int.natAbs_pos.2 hb);omega
theorem aIp (n b:Int) (hn : -9223372036854775808≤n∧n≤9223372036854775807) (h:b≠-1) : -9223372036854775808≤n.tdiv b∧n.tdiv b≤9223372036854775807:=by
 by_cases h0:b=0
 · subst h0; simp
 by_cases h1:b=1
 · subst h1; simpa using hn
 have e:(n.tdiv b).natAbs=n.natAbs / b.natAbs:=Int.natAbs_tdiv n b
 have h2:2≤b.natAbs:=by omega
 have h3:n.natAbs / b.natAbs≤n.natAbs / 2:=Nat.div_le_div_left h2 (by omega);omega
theorem aRU (a b:Int) (hb0:b≠0) (hb1:b≠-1) (hb : -9223372036854775808≤b∧b≤9223372036854775807):(wrap64 ((wrap64 (a*b)).tdiv b)==a)=aEu (a*b):=by
 rw[aD7 ((wrap64 (a*b)).tdiv b) (aIp _ _ (aHU _) hb1)];apply aEz;rw[beq_iff_eq,aCY]
 constructor
 · intro h;obtain⟨r,h1,h2,h3⟩:=aO4 (wrap64 (a*b)) b hb0;rw[h,Int.mul_comm b a] at h1;have hr:=aHU (a*b);obtain⟨k,hk⟩:=aNT (a*b);omega
 · intro h;rw[aD7 _ h,Int.mul_tdiv_cancel _ hb0]
theorem aUE (x y:Int) (hx : -9223372036854775808≤x∧x≤9223372036854775807) (hy : -9223372036854775808≤y∧y≤9223372036854775807) :
 (decide (x<wrap64 (x+y))==decide (0<y))=aEu (x+y):=by
 apply aEz;simp only[beq_iff_eq,aCY,decide_eq_decide];unfold wrap64;omega
theorem aVn (x y:Int) (hx : -9223372036854775808≤x∧x≤9223372036854775807) (hy : -9223372036854775808≤y∧y≤9223372036854775807) :
 (decide (wrap64 (x - y)<x)==decide (0<y))=aEu (x - y):=by
 apply aEz;simp only[beq_iff_eq,aCY,decide_eq_decide];unfold wrap64;omega
theorem aUs (n:Int):n.tdiv (-1) = -n:=by rw[Int.tdiv_neg]; simp
theorem aTc (n:Int):n.tmod (-1)=0:=by rw[Int.tmod_neg]; simp
end
section
open Go.RowKit Go.IntWalk
abbrev V3:=Int×Int×List UInt8
abbrev iD (n:Int):DV:=.c (.v (.int .i64 n))
abbrev bD (b:Bool):DV:=.c (.v (.bool b))
abbrev sD (l:List UInt8):DV:=.c (.v (.string (bs l)))
abbrev vD (v:V3):DV:=.agg [.v (.int .i64 v.1),.v (.int .i64 v.2.1),.v (.string (bs v.2.2))]
abbrev nul:V3:=(0,0,[])
abbrev I64 (n:Int):Prop:=-9223372036854775808≤n∧n≤9223372036854775807
theorem aSu {w:World} {X:Nat→Prop} {a b:Value} {vs:List Value} (h:DVRs w X [.c (.v a),.c (.v b)] vs):vs=[a,b]:=by
 match vs,h with
 | [x,y],h =>
  simp only[DVRs,DVR] at h;obtain⟨h1,h2,_⟩:=h;cases h1;cases h2;rfl
 | [],h=>simp[DVRs] at h
 | [_],h=>simp[DVRs] at h
 | _::_::_::_,h=>simp[DVRs] at h
theorem aIk {P:Program} {f:FuncId} {fn:Func} (hf:P.funcs[f]? = some fn) (hn:(fn.name == "runtime.NumGoroutine")=false) (hb:fn.body.isNone=false) {a b v:Value} (hv:v.oneCell'=true)
 (h : ∀ w,Calls P f #[a,b] w fun e w'=>e = .returned v∧w'=w):FnC P f [.c (.v a),.c (.v b)] (.c (.v v)) :=
 FnC.of (canEnter_of hf hn hb) fun w X vs _ _ hvs=>by
  rw[aSu hvs];refine (h w).mono ?_;rintro e w' ⟨rfl,rfl⟩;refine⟨v,rfl,?_,Below.refl _ _⟩;simp only[DVR];exact .v v hv
end
end Go.Proofs.YtcdeimjlgpfjiaaGreatDoor
namespace Go.Proofs
open Go.Shelf
def Tryz.lays156_ren:Go.Shelf.Ren:=⟨fun | 156=>35 | 165=>62 | 166=>63 | 169=>64 | 240=>89 | 241=>90 | 276=>127 | 277=>128 | n=>n,fun | 31=>68 | 9=>9 | 3=>3 | 4=>4 | 0=>0 | 20=>20 | 72=>100 | 76=>104 | 70=>98 | 37=>66 | 75=>103 | 127=>129 | 164=>148 | 5=>5 | 80=>106 | n=>n,fun | n=>n⟩
theorem Tryz.lays156:Go.Proofs.Lays.n156 Tryz.prog Tryz.lays156_ren:={
 mixed:=by kernel_rfl
 f156:=Tryz.func35.trans (congrArg some (by kernel_rfl))
 f165:=Tryz.func62.trans (congrArg some (by kernel_rfl))
 f166:=Tryz.func63.trans (congrArg some (by kernel_rfl))
 f169:=Tryz.func64.trans (congrArg some (by kernel_rfl))
 f240:=Tryz.func89.trans (congrArg some (by kernel_rfl))
 f241:=Tryz.func90.trans (congrArg some (by kernel_rfl))
 f276:=Tryz.func127.trans (congrArg some (by kernel_rfl))
 f277:=Tryz.func128.trans (congrArg some (by kernel_rfl))
 t0:=Tryz.underlying0
 a0:=Tryz.isAgg0
 z0:=Tryz.sizeOf0
 v0:=Tryz.zeroValue0
 t3:=Tryz.underlying3
 a3:=Tryz.isAgg3
 z3:=Tryz.sizeOf3
 v3:=Tryz.zeroValue3
 t4:=Tryz.underlying4
 a4:=Tryz.isAgg4
 z4:=Tryz.sizeOf4
 v4:=Tryz.zeroValue4
 t9:=Tryz.underlying9
 a9:=Tryz.isAgg9
 z9:=Tryz.sizeOf9
 v9:=Tryz.zeroValue9
 t20:=Tryz.underlying20
 a20:=Tryz.isAgg20
 z20:=Tryz.sizeOf20
 v20:=Tryz.zeroValue20
 t31:=Tryz.underlying68
 a31:=Tryz.isAgg68
 z31:=Tryz.sizeOf68
 v31:=Tryz.zeroValue68
 t37:=Tryz.underlying66
 a37:=Tryz.isAgg66
 z37:=Tryz.sizeOf66
 v37:=Tryz.zeroValue66
 t70:=Tryz.underlying98
 a70:=Tryz.isAgg98
 z70:=Tryz.sizeOf98
 v70:=Tryz.zeroValue98
 t72:=Tryz.underlying100
 a72:=Tryz.isAgg100
 z72:=Tryz.sizeOf100
 v72:=Tryz.zeroValue100
 t75:=Tryz.underlying103
 a75:=Tryz.isAgg103
 z75:=Tryz.sizeOf103
 v75:=Tryz.zeroValue103
 t76:=Tryz.underlying104
 a76:=Tryz.isAgg104
 z76:=Tryz.sizeOf104
 v76:=Tryz.zeroValue104
 t127:=Tryz.underlying129
 a127:=Tryz.isAgg129
 z127:=Tryz.sizeOf129
 v127:=Tryz.zeroValue129
 t164:=Tryz.underlying148
 a164:=Tryz.isAgg148
 z164:=Tryz.sizeOf148
 v164:=Tryz.zeroValue148 }
theorem Tryz.Builder_Extra_156:Builder.Extra Tryz.prog Tryz.lays156_ren:={
 sizeBuilder:=by kernel_rfl
 liesBuilder:=by kernel_rfl
 t5:=Tryz.underlying5
 a5:=Tryz.isAgg5
 z5:=Tryz.sizeOf5
 v5:=Tryz.zeroValue5
 infoByte:=by kernel_rfl
 cellsByte:=by kernel_rfl
 sizeByte:=by kernel_rfl
 neB5:=by decide }
open Go.RowKit in
theorem Tryz.strings_Join_none (a:Option Addr) (c:Nat) (sep:ByteArray) (w:World) :
 Calls Tryz.prog 35 #[.slice a 0 c,.string sep] w fun e w'=>e = .returned (.string ⟨#[]⟩)∧w'=w:=Any.strings_Join_none Tryz.lays156 Tryz.Builder_Extra_156 a c sep w
open Go.RowKit in
theorem Tryz.strings_Join (bk o c:Nat) (xs:List ByteArray) (sep:ByteArray) (w:World) (hcells : ∀ (j:Nat) x,xs[j]? = some x→w.cell? ⟨bk,o+j,none⟩=some (.string x)) (hbk:bk<w.heap.size) (hN:xs.length≤140737488355328) (hcap:xs.length≤c) (hlen:(Lib.join (xs.map (·.data.toList)) sep.data.toList).length≤140737488355328) :
 Calls Tryz.prog 35 #[.slice (some ⟨bk,o,none⟩) xs.length c,.string sep] w fun e w'=>e = .returned (.string ⟨(Lib.join (xs.map (·.data.toList)) sep.data.toList).toArray⟩)∧Below w.heap.size w w':=Any.strings_Join Tryz.lays156 Tryz.Builder_Extra_156 bk o c xs sep w hcells hbk hN hcap hlen
def Tryz.lays106_ren:Go.Shelf.Ren:=⟨fun | 106=>78 | 213=>106 | 265=>133 | n=>n,fun | 9=>9 | 3=>3 | n=>n,fun | n=>n⟩
theorem Tryz.lays106:Go.Proofs.Lays.n106 Tryz.prog Tryz.lays106_ren:={
 mixed:=by kernel_rfl
 f106:=Tryz.func78.trans (congrArg some (by kernel_rfl))
 f213:=Tryz.func106.trans (congrArg some (by kernel_rfl))
 f265:=Tryz.func133.trans (congrArg some (by kernel_rfl))
 t3:=Tryz.underlying3
 a3:=Tryz.isAgg3
 z3:=Tryz.sizeOf3
 v3:=Tryz.zeroValue3
 t9:=Tryz.underlying9
 a9:=Tryz.isAgg9
 z9:=Tryz.sizeOf9
 v9:=Tryz.zeroValue9 }
open Go.RowKit in
theorem Tryz.strings_Compare (a b:ByteArray) (w:World) :
 Calls Tryz.prog 78 #[.string a,.string b] w fun e w'=>e = .returned (.int .i64 (Lib.compareBytes a.data.toList b.data.toList))∧w'=w:=Any.strings_Compare Tryz.lays106 a b w
def Tryz.lays144_ren:Go.Shelf.Ren:=⟨fun | 144=>98 | 143=>87 | 219=>125 | 217=>135 | 225=>136 | 224=>137 | 267=>138 | 266=>143 | 314=>144 | n=>n,fun | 9=>9 | 4=>4 | 3=>3 | 5=>5 | 46=>97 | 146=>163 | 51=>162 | n=>n,fun | 1=>0 | n=>n⟩
theorem Tryz.lays144:Go.Proofs.Lays.n144 Tryz.prog Tryz.lays144_ren:={
 mixed:=by kernel_rfl
 f143:=Tryz.func87.trans (congrArg some (by kernel_rfl))
 f144:=Tryz.func98.trans (congrArg some (by kernel_rfl))
 f217:=Tryz.func135.trans (congrArg some (by kernel_rfl))
 f219:=Tryz.func125.trans (congrArg some (by kernel_rfl))
 f224:=Tryz.func137.trans (congrArg some (by kernel_rfl))
 f225:=Tryz.func136.trans (congrArg some (by kernel_rfl))
 f266:=Tryz.func143.trans (congrArg some (by kernel_rfl))
 f267:=Tryz.func138.trans (congrArg some (by kernel_rfl))
 f314:=Tryz.func144.trans (congrArg some (by kernel_rfl))
 t3:=Tryz.underlying3
 a3:=Tryz.isAgg3
 z3:=Tryz.sizeOf3
 v3:=Tryz.zeroValue3
 t4:=Tryz.underlying4
 a4:=Tryz.isAgg4
 z4:=Tryz.sizeOf4
 v4:=Tryz.zeroValue4
 t5:=Tryz.underlying5
 a5:=Tryz.isAgg5
 z5:=Tryz.sizeOf5
 v5:=Tryz.zeroValue5
 t9:=Tryz.underlying9
 a9:=Tryz.isAgg9
 z9:=Tryz.sizeOf9
 v9:=Tryz.zeroValue9
 t46:=Tryz.underlying97
 a46:=Tryz.isAgg97
 z46:=Tryz.sizeOf97
 v46:=Tryz.zeroValue97
 t51:=Tryz.underlying162
 a51:=Tryz.isAgg162
 z51:=Tryz.sizeOf162
 v51:=Tryz.zeroValue162
 t146:=Tryz.underlying163
 a146:=Tryz.isAgg163
 z146:=Tryz.sizeOf163
 v146:=Tryz.zeroValue163
 g1:=by kernel_rfl }
open Go.RowKit Go.Lib in
theorem Tryz.strings_Contains_one (s:ByteArray) (c:UInt8) (w:World) :
 Calls Tryz.prog 98 #[.string s,.string ⟨#[c]⟩] w fun e w'=>e = .returned (.bool (decide (0≤Lib.indexByte s.data.toList c)))∧w'=w:=Any.strings_Contains_one Tryz.lays144 s c w
def Tryz.lays155_ren:Go.Shelf.Ren:=⟨fun | 155=>33 | 154=>61 | 138=>86 | 165=>62 | 143=>87 | 166=>63 | 197=>88 | 169=>64 | 195=>123 | 218=>124 | 240=>89 | 241=>90 | 219=>125 | 260=>126 | 276=>127 | 277=>128 | 217=>135 | 225=>136 | 224=>137 | 267=>138 | 266=>143 | 314=>144 | n=>n,fun | 9=>9 | 3=>3 | 4=>4 | 72=>100 | 0=>0 | 76=>104 | 105=>127 | 21=>21 | 5=>5 | 70=>98 | 20=>20 | 37=>66 | 75=>103 | 127=>129 | 164=>148 | 46=>97 | 119=>155 | 139=>158 | 138=>157 | 146=>163 | 51=>162 | 80=>106 | n=>n,fun | 1=>0 | 3=>1 | 4=>2 | n=>n⟩
theorem Tryz.lays155:Go.Proofs.Lays.n155 Tryz.prog Tryz.lays155_ren:={
 mixed:=by kernel_rfl
 f138:=Tryz.func86.trans (congrArg some (by kernel_rfl))
 f143:=Tryz.func87.trans (congrArg some (by kernel_rfl))
 f154:=Tryz.func61.trans (congrArg some (by kernel_rfl))
 f155:=Tryz.func33.trans (congrArg some (by kernel_rfl))
 f165:=Tryz.func62.trans (congrArg some (by kernel_rfl))
 f166:=Tryz.func63.trans (congrArg some (by kernel_rfl))
 f169:=Tryz.func64.trans (congrArg some (by kernel_rfl))
 f195:=Tryz.func123.trans (congrArg some (by kernel_rfl))
 f197:=Tryz.func88.trans (congrArg some (by kernel_rfl))
 f217:=Tryz.func135.trans (congrArg some (by kernel_rfl))
 f218:=Tryz.func124.trans (congrArg some (by kernel_rfl))
 f219:=Tryz.func125.trans (congrArg some (by kernel_rfl))
 f224:=Tryz.func137.trans (congrArg some (by kernel_rfl))
 f225:=Tryz.func136.trans (congrArg some (by kernel_rfl))
 f240:=Tryz.func89.trans (congrArg some (by kernel_rfl))
 f241:=Tryz.func90.trans (congrArg some (by kernel_rfl))
 f260:=Tryz.func126.trans (congrArg some (by kernel_rfl))
 f266:=Tryz.func143.trans (congrArg some (by kernel_rfl))
 f267:=Tryz.func138.trans (congrArg some (by kernel_rfl))
 f276:=Tryz.func127.trans (congrArg some (by kernel_rfl))
 f277:=Tryz.func128.trans (congrArg some (by kernel_rfl))
 f314:=Tryz.func144.trans (congrArg some (by kernel_rfl))
 t0:=Tryz.underlying0
 a0:=Tryz.isAgg0
 z0:=Tryz.sizeOf0
 v0:=Tryz.zeroValue0
 t3:=Tryz.underlying3
 a3:=Tryz.isAgg3
 z3:=Tryz.sizeOf3
 v3:=Tryz.zeroValue3
 t4:=Tryz.underlying4
 a4:=Tryz.isAgg4
 z4:=Tryz.sizeOf4
 v4:=Tryz.zeroValue4
 t5:=Tryz.underlying5
 a5:=Tryz.isAgg5
 z5:=Tryz.sizeOf5
 v5:=Tryz.zeroValue5
 t9:=Tryz.underlying9
 a9:=Tryz.isAgg9
 z9:=Tryz.sizeOf9
 v9:=Tryz.zeroValue9
 t20:=Tryz.underlying20
 a20:=Tryz.isAgg20
 z20:=Tryz.sizeOf20
 v20:=Tryz.zeroValue20
 t21:=Tryz.underlying21
 a21:=Tryz.isAgg21
 z21:=Tryz.sizeOf21
 v21:=Tryz.zeroValue21
 t37:=Tryz.underlying66
 a37:=Tryz.isAgg66
 z37:=Tryz.sizeOf66
 v37:=Tryz.zeroValue66
 t46:=Tryz.underlying97
 a46:=Tryz.isAgg97
 z46:=Tryz.sizeOf97
 v46:=Tryz.zeroValue97
 t51:=Tryz.underlying162
 a51:=Tryz.isAgg162
 z51:=Tryz.sizeOf162
 v51:=Tryz.zeroValue162
 t70:=Tryz.underlying98
 a70:=Tryz.isAgg98
 z70:=Tryz.sizeOf98
 v70:=Tryz.zeroValue98
 t72:=Tryz.underlying100
 a72:=Tryz.isAgg100
 z72:=Tryz.sizeOf100
 v72:=Tryz.zeroValue100
 t75:=Tryz.underlying103
 a75:=Tryz.isAgg103
 z75:=Tryz.sizeOf103
 v75:=Tryz.zeroValue103
 t76:=Tryz.underlying104
 a76:=Tryz.isAgg104
 z76:=Tryz.sizeOf104
 v76:=Tryz.zeroValue104
 t105:=Tryz.underlying127
 a105:=Tryz.isAgg127
 z105:=Tryz.sizeOf127
 v105:=Tryz.zeroValue127
 t119:=Tryz.underlying155
 a119:=Tryz.isAgg155
 z119:=Tryz.sizeOf155
 t127:=Tryz.underlying129
 a127:=Tryz.isAgg129
 z127:=Tryz.sizeOf129
 v127:=Tryz.zeroValue129
 t138:=Tryz.underlying157
 a138:=Tryz.isAgg157
 z138:=Tryz.sizeOf157
 v138:=Tryz.zeroValue157
 t139:=Tryz.underlying158
 a139:=Tryz.isAgg158
 z139:=Tryz.sizeOf158
 v139:=Tryz.zeroValue158
 t146:=Tryz.underlying163
 a146:=Tryz.isAgg163
 z146:=Tryz.sizeOf163
 v146:=Tryz.zeroValue163
 t164:=Tryz.underlying148
 a164:=Tryz.isAgg148
 z164:=Tryz.sizeOf148
 v164:=Tryz.zeroValue148
 g1:=by kernel_rfl
 g3:=by kernel_rfl
 g4:=by kernel_rfl }
theorem Tryz.Builder_Extra_155:Builder.Extra Tryz.prog Tryz.lays155_ren:={
 sizeBuilder:=by kernel_rfl
 liesBuilder:=by kernel_rfl
 t5:=Tryz.underlying5
 a5:=Tryz.isAgg5
 z5:=Tryz.sizeOf5
 v5:=Tryz.zeroValue5
 infoByte:=by kernel_rfl
 cellsByte:=by kernel_rfl
 sizeByte:=by kernel_rfl
 neB5:=by decide }
open Go.RowKit Go.Lib in
theorem Tryz.strings_ReplaceAll (s old new:ByteArray) (m:Int) (w:World) (hs:s.size<4294967281) (hm:w.cell? ⟨0,0,none⟩=some (.int .i64 m)) (h1:1≤old.size) (hlen:s.size+Lib.countB s old*new.size≤140737488355328) :
 Calls Tryz.prog 33 #[.string s,.string old,.string new] w fun e w' =>
  e = .returned (.string ⟨(Lib.replaceAll s.data.toList old.data.toList new.data.toList).toArray⟩)∧Below w.heap.size w w':=Any.strings_ReplaceAll Tryz.lays155 Tryz.Builder_Extra_155 s old new m w hs hm h1 hlen
def Tryz.laysM155_ren:Go.Shelf.Ren:=⟨fun | 155=>33 | 154=>61 | 138=>86 | 165=>62 | 143=>87 | 166=>63 | 197=>88 | 169=>64 | 195=>123 | 218=>124 | 240=>89 | 241=>90 | 219=>125 | 260=>126 | 276=>127 | 277=>128 | 217=>135 | 225=>136 | 224=>137 | 267=>138 | 266=>143 | 314=>144 | n=>n,fun | 9=>9 | 3=>3 | 4=>4 | 72=>100 | 0=>0 | 76=>104 | 105=>127 | 21=>21 | 5=>5 | 70=>98 | 20=>20 | 37=>66 | 75=>103 | 127=>129 | 164=>148 | 46=>97 | 119=>155 | 139=>158 | 138=>157 | 146=>163 | 51=>162 | 80=>106 | n=>n,fun | 1=>0 | 3=>1 | 4=>2 | n=>n⟩
theorem Tryz.laysM155:Go.Proofs.LaysM.n155 Tryz.prog Tryz.laysM155_ren:={
 mixed:=by kernel_rfl
 f138:=Tryz.func86.trans (congrArg some (by kernel_rfl))
 f143:=Tryz.func87.trans (congrArg some (by kernel_rfl))
 f154:=Tryz.func61.trans (congrArg some (by kernel_rfl))
 f155:=Tryz.func33.trans (congrArg some (by kernel_rfl))
 f165:=Tryz.func62.trans (congrArg some (by kernel_rfl))
 f166:=Tryz.func63.trans (congrArg some (by kernel_rfl))
 f169:=Tryz.func64.trans (congrArg some (by kernel_rfl))
 f195:=Tryz.func123.trans (congrArg some (by kernel_rfl))
 f197:=Tryz.func88.trans (congrArg some (by kernel_rfl))
 f217:=Tryz.func135.trans (congrArg some (by kernel_rfl))
 f218:=Tryz.func124.trans (congrArg some (by kernel_rfl))
 f219:=Tryz.func125.trans (congrArg some (by kernel_rfl))
 f224:=Tryz.func137.trans (congrArg some (by kernel_rfl))
 f225:=Tryz.func136.trans (congrArg some (by kernel_rfl))
 f240:=Tryz.func89.trans (congrArg some (by kernel_rfl))
 f241:=Tryz.func90.trans (congrArg some (by kernel_rfl))
 f260:=Tryz.func126.trans (congrArg some (by kernel_rfl))
 f266:=Tryz.func143.trans (congrArg some (by kernel_rfl))
 f267:=Tryz.func138.trans (congrArg some (by kernel_rfl))
 f276:=Tryz.func127.trans (congrArg some (by kernel_rfl))
 f277:=Tryz.func128.trans (congrArg some (by kernel_rfl))
 f314:=Tryz.func144.trans (congrArg some (by kernel_rfl))
 t0:=Tryz.underlying0
 a0:=Tryz.isAgg0
 z0:=Tryz.sizeOf0
 v0:=Tryz.zeroValue0
 t3:=Tryz.underlying3
 a3:=Tryz.isAgg3
 z3:=Tryz.sizeOf3
 v3:=Tryz.zeroValue3
 t4:=Tryz.underlying4
 a4:=Tryz.isAgg4
 z4:=Tryz.sizeOf4
 v4:=Tryz.zeroValue4
 t5:=Tryz.underlying5
 a5:=Tryz.isAgg5
 z5:=Tryz.sizeOf5
 v5:=Tryz.zeroValue5
 t9:=Tryz.underlying9
 a9:=Tryz.isAgg9
 z9:=Tryz.sizeOf9
 v9:=Tryz.zeroValue9
 t20:=Tryz.underlying20
 a20:=Tryz.isAgg20
 z20:=Tryz.sizeOf20
 v20:=Tryz.zeroValue20
 t21:=Tryz.underlying21
 a21:=Tryz.isAgg21
 z21:=Tryz.sizeOf21
 v21:=Tryz.zeroValue21
 t37:=Tryz.underlying66
 a37:=Tryz.isAgg66
 z37:=Tryz.sizeOf66
 v37:=Tryz.zeroValue66
 t46:=Tryz.underlying97
 a46:=Tryz.isAgg97
 z46:=Tryz.sizeOf97
 v46:=Tryz.zeroValue97
 t51:=Tryz.underlying162
 a51:=Tryz.isAgg162
 z51:=Tryz.sizeOf162
 v51:=Tryz.zeroValue162
 t70:=Tryz.underlying98
 a70:=Tryz.isAgg98
 z70:=Tryz.sizeOf98
 v70:=Tryz.zeroValue98
 t72:=Tryz.underlying100
 a72:=Tryz.isAgg100
 z72:=Tryz.sizeOf100
 v72:=Tryz.zeroValue100
 t75:=Tryz.underlying103
 a75:=Tryz.isAgg103
 z75:=Tryz.sizeOf103
 v75:=Tryz.zeroValue103
 t76:=Tryz.underlying104
 a76:=Tryz.isAgg104
 z76:=Tryz.sizeOf104
 v76:=Tryz.zeroValue104
 t105:=Tryz.underlying127
 a105:=Tryz.isAgg127
 z105:=Tryz.sizeOf127
 v105:=Tryz.zeroValue127
 t119:=Tryz.underlying155
 a119:=Tryz.isAgg155
 z119:=Tryz.sizeOf155
 t127:=Tryz.underlying129
 a127:=Tryz.isAgg129
 z127:=Tryz.sizeOf129
 v127:=Tryz.zeroValue129
 t138:=Tryz.underlying157
 a138:=Tryz.isAgg157
 z138:=Tryz.sizeOf157
 v138:=Tryz.zeroValue157
 t139:=Tryz.underlying158
 a139:=Tryz.isAgg158
 z139:=Tryz.sizeOf158
 v139:=Tryz.zeroValue158
 t146:=Tryz.underlying163
 a146:=Tryz.isAgg163
 z146:=Tryz.sizeOf163
 v146:=Tryz.zeroValue163
 t164:=Tryz.underlying148
 a164:=Tryz.isAgg148
 z164:=Tryz.sizeOf148
 v164:=Tryz.zeroValue148
 g1:=by kernel_rfl
 g3:=by kernel_rfl
 g4:=by kernel_rfl
 t80:=Tryz.underlying106
 a80:=Tryz.isAgg106
 z80:=Tryz.sizeOf106
 v80:=Tryz.zeroValue106
 i0:=by kernel_rfl
 i3:=by kernel_rfl
 i4:=by kernel_rfl
 i5:=by kernel_rfl
 i9:=by kernel_rfl
 i20:=by kernel_rfl
 i21:=by kernel_rfl
 i37:=by kernel_rfl
 i46:=by kernel_rfl
 i51:=by kernel_rfl
 i70:=by kernel_rfl
 i72:=by kernel_rfl
 i75:=by kernel_rfl
 i76:=by kernel_rfl
 i80:=by kernel_rfl
 i105:=by kernel_rfl
 i127:=by kernel_rfl
 i138:=by kernel_rfl
 i139:=by kernel_rfl
 i146:=by kernel_rfl
 i164:=by kernel_rfl
 m1:=by kernel_rfl
 s1_3:=fun w h=>Go.Proofs.cell_of_shapedOpen_int (zero:=#[.int .i64 0]) (t:=3) h (of_decide_eq_true (by kernel_rfl)) (by kernel_rfl) rfl (by kernel_rfl) (by kernel_rfl) Tryz.underlying3
 m3:=by kernel_rfl
 m4:=by kernel_rfl }
end Go.Proofs
namespace Go.Proofs.YtcdeimjlgpfjiaaGreatDoor
section
open Go.RowKit Go.IntWalk
theorem aBf (a b:List UInt8):FnC Tryz.prog 78 [sD a,sD b] (iD (Lib.compareBytes a b)):=by
 have:=aIk Tryz.func78 (by kernel_rfl) (by kernel_rfl) (by rfl) (Tryz.strings_Compare (bs a) (bs b))
 rwa [aBQ,aBQ] at this
theorem aN1 (a:List UInt8) (c:UInt8):FnC Tryz.prog 98 [sD a,sD [c]] (bD (a.contains c)):=by
 have:=aIk Tryz.func98 (by kernel_rfl) (by kernel_rfl) (by rfl) (Tryz.strings_Contains_one (bs a) c)
 rw[aBQ] at this
 rwa [Lib.contains_iff_indexByte]
theorem aDE (x:Int):FnC Tryz.prog 104 [iD x] (bD false):=by
 refine w104 x ?_
 (try simp only[aAG,aAu,aAg,aAh,aAi,aAr])
 (repeat' (first | with_reducible refine⟨fun _=>?_,fun _=>?_⟩ | fail))
 all_goals (simp_all)
theorem aB0 (x:Int):FnC Tryz.prog 105 [iD x] (bD false):=by
 refine w105 x ?_
 (try simp only[aAG,aAu,aAg,aAh,aAi,aAr])
 (repeat' (first | with_reducible refine⟨fun _=>?_,fun _=>?_⟩ | fail))
 all_goals (simp_all)
def cmpI (x y:Int):Int:=if x<y then -1 else if y<x then 1 else 0
theorem aBY (x y:Int):FnC Tryz.prog 76 [iD x,iD y] (iD (cmpI x y)):=by
 refine w76 x y ?_
 (try simp only[aAG,aAu,aAg,aAh,aAi,aAr])
 (repeat' (first | (with_reducible refine⟨_,(aDE _),?_⟩) | (with_reducible refine⟨_,_,(aDE _),?_⟩) | (with_reducible refine⟨_,_,_,(aDE _),?_⟩) | (with_reducible refine⟨_,_,_,_,(aDE _),?_⟩) | (with_reducible refine⟨_,fun _=>(aDE _),?_⟩) | (with_reducible refine⟨_,_,fun _=>(aDE _),?_⟩) | (with_reducible refine⟨_,_,_,fun _=>(aDE _),?_⟩) | (with_reducible refine⟨_,_,_,_,fun _=>(aDE _),?_⟩) | with_reducible refine⟨fun _=>?_,fun _=>?_⟩ | fail))
 all_goals (((try simp only[cmpI] at *); (repeat' split) <;> (first | rfl | (exfalso; omega) | (simp_all; done) | (simp_all; omega))))
theorem aBn (x y:Int):FnC Tryz.prog 77 [iD x,iD y] (iD (cmpI x y)):=by
 refine w77 x y ?_
 (try simp only[aAG,aAu,aAg,aAh,aAi,aAr])
 (repeat' (first | (with_reducible refine⟨_,(aB0 _),?_⟩) | (with_reducible refine⟨_,_,(aB0 _),?_⟩) | (with_reducible refine⟨_,_,_,(aB0 _),?_⟩) | (with_reducible refine⟨_,_,_,_,(aB0 _),?_⟩) | (with_reducible refine⟨_,fun _=>(aB0 _),?_⟩) | (with_reducible refine⟨_,_,fun _=>(aB0 _),?_⟩) | (with_reducible refine⟨_,_,_,fun _=>(aB0 _),?_⟩) | (with_reducible refine⟨_,_,_,_,fun _=>(aB0 _),?_⟩) | with_reducible refine⟨fun _=>?_,fun _=>?_⟩ | fail))
 all_goals (((try simp only[cmpI] at *); (repeat' split) <;> (first | rfl | (exfalso; omega) | (simp_all; done) | (simp_all; omega))))
theorem aAH (n:Int):FnC Tryz.prog 74 [iD n] (vD (1,n,[])):=by
 refine w74 n ?_
 (try simp only[aAG,aAu,aAg,aAh,aAi,aAr])
 (repeat' (first | with_reducible refine⟨fun _=>?_,fun _=>?_⟩ | fail))
 all_goals (rfl)
theorem aDF (s:List UInt8):FnC Tryz.prog 103 [sD s] (vD (2,0,s)):=by
 refine w103 (bs s) ?_
 (try simp only[aAG,aAu,aAg,aAh,aAi,aAr])
 (repeat' (first | with_reducible refine⟨fun _=>?_,fun _=>?_⟩ | fail))
 all_goals (rfl)
theorem aGw (s:List UInt8):FnC Tryz.prog 122 [sD s] (vD (3,0,s)):=by
 refine w122 (bs s) ?_
 (try simp only[aAG,aAu,aAg,aAh,aAi,aAr])
 (repeat' (first | with_reducible refine⟨fun _=>?_,fun _=>?_⟩ | fail))
 all_goals (rfl)
theorem aFM (b:Bool):FnC Tryz.prog 52 [bD b] (vD (1,if b then 1 else 0,[])):=by
 refine w52 b ?_
 (try simp only[aAG,aAu,aAg,aAh,aAi,aAr])
 (repeat' (first | (with_reducible refine⟨_,(aAH _),?_⟩) | (with_reducible refine⟨_,_,(aAH _),?_⟩) | (with_reducible refine⟨_,_,_,(aAH _),?_⟩) | (with_reducible refine⟨_,_,_,_,(aAH _),?_⟩) | (with_reducible refine⟨_,fun _=>(aAH _),?_⟩) | (with_reducible refine⟨_,_,fun _=>(aAH _),?_⟩) | (with_reducible refine⟨_,_,_,fun _=>(aAH _),?_⟩) | (with_reducible refine⟨_,_,_,_,fun _=>(aAH _),?_⟩) | with_reducible refine⟨fun _=>?_,fun _=>?_⟩ | fail))
 all_goals (simp_all)
def aEh (v:V3):V3×Bool:=if v.1=0 then (nul,true) else if v.1=1 then ((1,v.2.1,[]),true) else if v.1=2∨v.1=3 then ((v.1,0,v.2.2),true) else (nul,false)
theorem aSt (v:V3):FnC Tryz.prog 107 [vD v] (.tup [vD (aEh v).1,bD (aEh v).2]):=by
 refine w107 v.1 v.2.1 (bs v.2.2) ?_
 (try simp only[aAG,aAu,aAg,aAh,aAi,aAr])
 (repeat' (first | (with_reducible refine⟨_,(aAH _),?_⟩) | (with_reducible refine⟨_,_,(aAH _),?_⟩) | (with_reducible refine⟨_,_,_,(aAH _),?_⟩) | (with_reducible refine⟨_,_,_,_,(aAH _),?_⟩) | (with_reducible refine⟨_,fun _=>(aAH _),?_⟩) | (with_reducible refine⟨_,_,fun _=>(aAH _),?_⟩) | (with_reducible refine⟨_,_,_,fun _=>(aAH _),?_⟩) | (with_reducible refine⟨_,_,_,_,fun _=>(aAH _),?_⟩) | with_reducible refine⟨fun _=>?_,fun _=>?_⟩ | fail))
 all_goals (((try simp only[aEh,nul] at *); (repeat' split) <;> (first | rfl | (exfalso; omega) | (simp_all; done) | (simp_all; omega))))
def aBZ (v:V3):Int:=if v.1<0∨3<v.1∨(v.1≠1∧v.2.1≠0)∨(v.1<2∧v.2.2≠[]) then 1 else if 4096<(v.2.2.length:Int) then 3 else 0
theorem aOo (v:V3):((aEh v).2=true∧v=(aEh v).1)↔¬ (v.1<0∨3<v.1∨(v.1≠1∧v.2.1≠0)∨(v.1<2∧v.2.2≠[])):=by
 obtain⟨k,n,s⟩:=v;simp only[aEh,nul];by_cases h0:k=0
 · subst h0; simp
 by_cases h1:k=1
 · subst h1; simp
 by_cases h2:k=2
 · subst h2; simp
 by_cases h3:k=3
 · subst h3; simp
 simp[h0,h1,h2,h3];omega
theorem aR4 (v:V3):FnC Tryz.prog 82 [vD v] (iD (aBZ v)):=by
 refine w82 v.1 v.2.1 (bs v.2.2) ?_;refine⟨_,_,_,_,aSt v,?_⟩;have hb:=aOo v
 have e:(v.1=(aEh v).1.1∧v.2.1=(aEh v).1.2.1∧bs v.2.2=bs (aEh v).1.2.2∧(true=true))↔v=(aEh v).1:=by
  rw[aAu]
  constructor
  · rintro⟨h1,h2,h3,_⟩;exact Prod.ext h1 (Prod.ext h2 h3)
  · intro h; rw[←h]; simp
 rw[e,aAg]
 have e2:(¬ (aEh v).2=true∨¬ v=(aEh v).1)↔(v.1<0∨3<v.1∨(v.1≠1∧v.2.1≠0)∨(v.1<2∧v.2.2≠[])):=by
  rw[←Classical.not_and_iff_not_or_not,hb,Classical.not_not]
 rw[e2];refine⟨fun h=>?_,fun h=>⟨fun h2=>?_,fun h2=>?_⟩⟩
 · simp only[aBZ,h,if_true]
 · simp only[aBZ,h,h2,if_true,if_false]
 · simp only[aBZ,h,h2,if_false]
theorem aTS (ty:Int):FnC Tryz.prog 120 [iD ty] (bD (decide (0≤ty∧ty≤3))):=by
 refine w120 ty ?_;by_cases h1:0≤ty <;> by_cases h2:ty≤3 <;> simp[h1,h2]
theorem aI9 (v:V3):FnC Tryz.prog 79 [vD v] (.tup [bD (v.1==1 && !(v.2.1==0)),bD (v.1==1)]):=by
 refine w79 v.1 v.2.1 (bs v.2.2) ?_
 (try simp only[aAG,aAu,aAg,aAh,aAi,aAr])
 (repeat' (first | with_reducible refine⟨fun _=>?_,fun _=>?_⟩ | fail))
 all_goals (simp_all)
def aJT (v:V3):List UInt8×Bool:=if v.1=1 then (numL v.2.1,true) else if v.1=2 then (v.2.2,true) else ([],false)
theorem aLp (v:V3) (h:I64 v.2.1):FnC Tryz.prog 102 [vD v] (.tup [sD (aJT v).1,bD (aJT v).2]):=by
 refine w102 v.1 v.2.1 (bs v.2.2) ?_
 (try simp only[aAG,aAu,aAg,aAh,aAi,aAr])
 (repeat' (first | (with_reducible refine⟨_,(aDD _ h),?_⟩) | (with_reducible refine⟨_,_,(aDD _ h),?_⟩) | (with_reducible refine⟨_,_,_,(aDD _ h),?_⟩) | (with_reducible refine⟨_,_,_,_,(aDD _ h),?_⟩) | (with_reducible refine⟨_,fun _=>(aDD _ h),?_⟩) | (with_reducible refine⟨_,_,fun _=>(aDD _ h),?_⟩) | (with_reducible refine⟨_,_,_,fun _=>(aDD _ h),?_⟩) | (with_reducible refine⟨_,_,_,_,fun _=>(aDD _ h),?_⟩) | with_reducible refine⟨fun _=>?_,fun _=>?_⟩ | fail))
 all_goals (((try simp only[aJT] at *); (repeat' split) <;> (first | rfl | (exfalso; omega) | (simp_all; done) | (simp_all; omega))))
def aFx (v:V3):List UInt8:=if v.1=1 then numL v.2.1 else v.2.2
def aFi (v:V3):V3×Int:=if v.1=1 then (v,0) else if v.1=2 then (if (aB5 v.2.2).2≠0 then (nul,(aB5 v.2.2).2) else ((1,(aB5 v.2.2).1,[]),0)) else (nul,11)
theorem aRG (v:V3) (h:Sz v.2.2):FnC Tryz.prog 121 [vD v] (.tup [vD (aFi v).1,iD (aFi v).2]):=by
 refine w121 v.1 v.2.1 (bs v.2.2) ?_
 (try simp only[aAG,aAu,aAg,aAh,aAi,aAr])
 (repeat' (first | (with_reducible refine⟨_,(aAH _),?_⟩) | (with_reducible refine⟨_,_,(aAH _),?_⟩) | (with_reducible refine⟨_,_,_,(aAH _),?_⟩) | (with_reducible refine⟨_,_,_,_,(aAH _),?_⟩) | (with_reducible refine⟨_,fun _=>(aAH _),?_⟩) | (with_reducible refine⟨_,_,fun _=>(aAH _),?_⟩) | (with_reducible refine⟨_,_,_,fun _=>(aAH _),?_⟩) | (with_reducible refine⟨_,_,_,_,fun _=>(aAH _),?_⟩) | (with_reducible refine⟨_,(aCs _ h),?_⟩) | (with_reducible refine⟨_,_,(aCs _ h),?_⟩) | (with_reducible refine⟨_,_,_,(aCs _ h),?_⟩) | (with_reducible refine⟨_,_,_,_,(aCs _ h),?_⟩) | (with_reducible refine⟨_,fun _=>(aCs _ h),?_⟩) | (with_reducible refine⟨_,_,fun _=>(aCs _ h),?_⟩) | (with_reducible refine⟨_,_,_,fun _=>(aCs _ h),?_⟩) | (with_reducible refine⟨_,_,_,_,fun _=>(aCs _ h),?_⟩) | with_reducible refine⟨fun _=>?_,fun _=>?_⟩ | fail))
 all_goals (((try simp only[aFi,nul] at *); (repeat' split) <;> (first | rfl | (exfalso; omega) | (simp_all; done) | (simp_all; omega))))
end
section
open Go.RowKit Go.IntWalk
def low (c:UInt8):UInt8:=if 65≤c∧c≤90 then c+32 else c
def aAn (l:List UInt8):List UInt8:=l.map low
def aEl (l:List UInt8) (k:Nat):List UInt8:=aAn (l.take k)++l.drop k
theorem aE1 (l:List UInt8) (k:Nat):(aEl l k).length=l.length:=by simp[aEl,aAn]; omega
theorem aMb (l:List UInt8) (k:Nat) (h:k<l.length):(aEl l k)[k]'(by rw[aE1]; exact h)=l[k]:=by
 unfold aEl;rw[List.getElem_append_right (by simp[aAn]; omega)];simp[aAn,Nat.min_eq_left (Nat.le_of_lt h)]
theorem aOi (l:List UInt8):aEl l 0=l:=by simp[aEl,aAn]
theorem aOR (l:List UInt8):aEl l l.length=aAn l:=by simp[aEl]
theorem aIa (l:List UInt8) (k:Nat) (h:k<l.length):(aEl l k).set k (low l[k])=aEl l (k+1):=by
 unfold aEl;rw[List.set_append_right _ _ (by simp[aAn]; omega)]
 have e:k - (aAn (l.take k)).length=0:=by simp[aAn]; omega
 rw[e,List.drop_eq_getElem_cons h,List.set_cons_zero,List.take_succ_eq_append_getElem h];simp[aAn];rw[List.take_succ_eq_append_getElem (by simpa using h)]
 simp
theorem aN3 (l:List UInt8) (k:Nat) (h:k<l.length) (hc:low l[k]=l[k]):aEl l k=aEl l (k+1):=by
 rw[←aIa l k h,hc]
 have:=aMb l k h
 rw[←this,List.set_getElem_self]
theorem aSd (c:UInt8) (h : ¬ (65≤(c.toNat:Int)∧(c.toNat:Int)≤90)):low c=c:=by
 unfold low;rw[if_neg];rintro⟨h1,h2⟩;have h1:65≤c.toNat:=h1;have h2:c.toNat≤90:=h2;omega
theorem aUZ (c:UInt8) (h:65≤(c.toNat:Int)∧(c.toNat:Int)≤90):((low c).toNat:Int)=(c.toNat:Int)+32:=by
 have h1:65≤c:=by show 65≤c.toNat; omega
 have h2:c≤90:=by show c.toNat≤90; omega
 unfold low;rw[if_pos ⟨h1,h2⟩,UInt8.toNat_add]
 simp
 omega
theorem aCr (l:List UInt8):(aAn l).length=l.length:=by simp[aAn]
theorem aOj (l:List UInt8) (k:Nat) (h:k<l.length):(aEl l k).getD k 0=l.getD k 0:=by
 have:=aMb l k h
 rw[List.getD_eq_getElem?_getD,List.getD_eq_getElem?_getD,List.getElem?_eq_getElem (by rw[aE1]; exact h),this,List.getElem?_eq_getElem h]
theorem aIZ (l:List UInt8) (k:Nat) (h:k<l.length):l.getD k 0=l[k]:=by
 rw[List.getD_eq_getElem?_getD,List.getElem?_eq_getElem h]; rfl
theorem aAL (l:List UInt8) (hs:Sz l):FnC Tryz.prog 25 [sD l] (sD (aAn l)):=by
 unfold Sz at hs;refine w25 (bs l) ?_;intro x1 hx1;rw[aLZ] at hx1;subst hx1;rw[aBu];refine⟨fun rows i k=>0≤i∧i≤l.length∧rows=bc (aEl l i.toNat)∧k=l.length - i.toNat,⟨_,by omega,by omega,by rw[Int.toNat_zero,aOi],rfl⟩,?_⟩;rintro k rows i ⟨h0,h1,rfl,rfl⟩;refine⟨fun hi=>?_,fun hi=>?_⟩
 · have hk:i.toNat<l.length:=by omega
   have hk2:i<((aEl l i.toNat).length:Int):=by rw[aE1]; omega
   rw[aUR _ _ h0 hk2,aOj l _ hk,i64_in (i+1) (by omega)];refine⟨by omega,aOz _ _ h0 hk2,fun hc=>?_,fun hc=>?_⟩
   · rw[aBu,aE1];refine⟨by omega,by omega,fun x4 hx4=>?_⟩;have e:=u8_in ((l.getD i.toNat 0).toNat+97) (by omega);rw[e,aMl (b:=low (l.getD i.toNat 0)) (hz:=by rw[u8_in _ (by omega),aUZ _ hc]; omega),aIZ l _ hk,aIa l _ hk] at hx4;subst hx4;refine⟨_,?_,by omega,by omega,?_,rfl⟩
     · omega
     · rw[show (i+1).toNat=i.toNat+1 by omega]
   · refine⟨_,?_,by omega,by omega,?_,rfl⟩
     · omega
     · rw[show (i+1).toNat=i.toNat+1 by omega,aN3 l _ hk (by rw[←aIZ l _ hk]; exact aSd _ hc)]
 · have e:i.toNat=l.length:=by omega
   rw[e,aOR,aBu,aCr,Int.toNat_natCast,aIP,aHG,←aCr l,List.take_length];exact⟨by omega,aEq _,rfl⟩
end
section
open Go.RowKit Go.IntWalk
def cmpV (a b:V3) (coll:Int):Int :=
 if a.1≠b.1 then cmpI a.1 b.1 else if a.1=1 then cmpI a.2.1 b.2.1
 else if a.1=2 then (if coll=1 then Lib.compareBytes (aAn a.2.2) (aAn b.2.2) else Lib.compareBytes a.2.2 b.2.2)
 else if a.1=3 then Lib.compareBytes a.2.2 b.2.2 else 0
theorem aFK (a b:V3) (coll:Int) (ha:Sz a.2.2) (hb:Sz b.2.2):FnC Tryz.prog 53 [vD a,vD b,iD coll] (iD (cmpV a b coll)):=by
 refine w53 a.1 a.2.1 (bs a.2.2) b.1 b.2.1 (bs b.2.2) coll ?_
 (try simp only[aAG,aAu,aAg,aAh,aAi,aAr])
 (repeat' (first | (with_reducible refine⟨_,(aAL _ ha),?_⟩) | (with_reducible refine⟨_,_,(aAL _ ha),?_⟩) | (with_reducible refine⟨_,_,_,(aAL _ ha),?_⟩) | (with_reducible refine⟨_,_,_,_,(aAL _ ha),?_⟩) | (with_reducible refine⟨_,fun _=>(aAL _ ha),?_⟩) | (with_reducible refine⟨_,_,fun _=>(aAL _ ha),?_⟩) | (with_reducible refine⟨_,_,_,fun _=>(aAL _ ha),?_⟩) | (with_reducible refine⟨_,_,_,_,fun _=>(aAL _ ha),?_⟩) | (with_reducible refine⟨_,(aAL _ hb),?_⟩) | (with_reducible refine⟨_,_,(aAL _ hb),?_⟩) | (with_reducible refine⟨_,_,_,(aAL _ hb),?_⟩) | (with_reducible refine⟨_,_,_,_,(aAL _ hb),?_⟩) | (with_reducible refine⟨_,fun _=>(aAL _ hb),?_⟩) | (with_reducible refine⟨_,_,fun _=>(aAL _ hb),?_⟩) | (with_reducible refine⟨_,_,_,fun _=>(aAL _ hb),?_⟩) | (with_reducible refine⟨_,_,_,_,fun _=>(aAL _ hb),?_⟩) | (with_reducible refine⟨_,(aBY _ _),?_⟩) | (with_reducible refine⟨_,_,(aBY _ _),?_⟩) | (with_reducible refine⟨_,_,_,(aBY _ _),?_⟩) | (with_reducible refine⟨_,_,_,_,(aBY _ _),?_⟩) | (with_reducible refine⟨_,fun _=>(aBY _ _),?_⟩) | (with_reducible refine⟨_,_,fun _=>(aBY _ _),?_⟩) | (with_reducible refine⟨_,_,_,fun _=>(aBY _ _),?_⟩) | (with_reducible refine⟨_,_,_,_,fun _=>(aBY _ _),?_⟩) | (with_reducible refine⟨_,(aBn _ _),?_⟩) | (with_reducible refine⟨_,_,(aBn _ _),?_⟩) | (with_reducible refine⟨_,_,_,(aBn _ _),?_⟩) | (with_reducible refine⟨_,_,_,_,(aBn _ _),?_⟩) | (with_reducible refine⟨_,fun _=>(aBn _ _),?_⟩) | (with_reducible refine⟨_,_,fun _=>(aBn _ _),?_⟩) | (with_reducible refine⟨_,_,_,fun _=>(aBn _ _),?_⟩) | (with_reducible refine⟨_,_,_,_,fun _=>(aBn _ _),?_⟩) | (with_reducible refine⟨_,(aBf _ _),?_⟩) | (with_reducible refine⟨_,_,(aBf _ _),?_⟩) | (with_reducible refine⟨_,_,_,(aBf _ _),?_⟩) | (with_reducible refine⟨_,_,_,_,(aBf _ _),?_⟩) | (with_reducible refine⟨_,fun _=>(aBf _ _),?_⟩) | (with_reducible refine⟨_,_,fun _=>(aBf _ _),?_⟩) | (with_reducible refine⟨_,_,_,fun _=>(aBf _ _),?_⟩) | (with_reducible refine⟨_,_,_,_,fun _=>(aBf _ _),?_⟩) | with_reducible refine⟨fun _=>?_,fun _=>?_⟩ | fail))
 all_goals (((try simp only[cmpV] at *); (repeat' split) <;> (first | rfl | (exfalso; omega) | (simp_all; done) | (simp_all; omega))))
end
section
open Go.RowKit Go.IntWalk
theorem i64w (n:Int):IntKind.wrap .i64 n=wrap64 n:=i64_left n
def fitR (s:Int):V3×Int:=if aEu s then ((1,s,[]),0) else (nul,9)
theorem aVy (n:Int) (ok:Bool):FnC Tryz.prog 99 [iD n,bD ok] (.tup [vD (if ok then (1,n,[]) else nul),iD (if ok then 0 else 9)]):=by
 refine w99 n ok ?_
 (try simp only[aAG,aAu,aAg,aAh,aAi,aAr])
 (repeat' (first | (with_reducible refine⟨_,(aAH _),?_⟩) | (with_reducible refine⟨_,_,(aAH _),?_⟩) | (with_reducible refine⟨_,_,_,(aAH _),?_⟩) | (with_reducible refine⟨_,_,_,_,(aAH _),?_⟩) | (with_reducible refine⟨_,fun _=>(aAH _),?_⟩) | (with_reducible refine⟨_,_,fun _=>(aAH _),?_⟩) | (with_reducible refine⟨_,_,_,fun _=>(aAH _),?_⟩) | (with_reducible refine⟨_,_,_,_,fun _=>(aAH _),?_⟩) | with_reducible refine⟨fun _=>?_,fun _=>?_⟩ | fail))
 all_goals (simp_all)
theorem aIV (s:Int):FnC Tryz.prog 99 [iD (wrap64 s),bD (aEu s)] (.tup [vD (fitR s).1,iD (fitR s).2]):=by
 have:=aVy (wrap64 s) (aEu s)
 cases h:aEu s
 · rw[h] at this;simpa[fitR,h] using this
 · rw[h] at this;rw[aD7 s ((aCY s).1 h)] at this ⊢;simpa[fitR,h] using this
theorem aQn (a b:Int) (ha:I64 a) (hb:I64 b):FnC Tryz.prog 100 [iD a,iD b] (.tup [iD (wrap64 (a*b)),bD (aEu (a*b))]):=by
 refine w100 a b ?_;simp only[i64w];refine⟨fun h=>?_,fun h=>⟨fun h1=>?_,fun h1=>⟨?_,?_⟩⟩⟩
 · have:a*b=0:=by rcases h with h | h <;> subst h <;> simp
   have e1:wrap64 0=0:=aD7 0 (by omega)
   have e2:aEu 0=true:=by decide
   rw[this,e1,e2]
 · have e:(if (!a == -9223372036854775808)=true then !b == -9223372036854775808 else false)=aEu (a*b):=?_
   · rw[e]
   apply aEz;rw[aCY];rcases h1 with h1 | h1
   · subst h1;rw[Int.neg_mul,Int.one_mul]
     simp
     omega
   · subst h1;rw[Int.mul_neg,Int.mul_one];by_cases hh:a = -9223372036854775808
     · subst hh; simp
     · simp[hh]; omega
 · omega
 · rw[aRU a b (by omega) (by omega) hb]
def divR (op:List UInt8) (x y:Int):V3×Int:=if y=0 then (nul,0) else if op=[37] then ((1,x.tmod y,[]),0) else fitR (x.tdiv y)
theorem aTi (x y:Int) (hx:I64 x) (hy:y≠0):aEu (x.tdiv y)=(if (!(x == -9223372036854775808)) then true else (!(y == -1))):=by
 apply aEz;rw[aCY];by_cases h:y = -1
 · subst h;rw[aUs];by_cases hh:x = -9223372036854775808
   · subst hh; simp
   · simp[hh]; omega
 · have:=aIp x y hx h
   simp[h,this]
theorem aR3 (op:List UInt8) (x y:Int) (hx:I64 x) (hy:I64 y):FnC Tryz.prog 101 [sD op,iD x,iD y] (.tup [vD (divR op x y).1,iD (divR op x y).2]):=by
 refine w101 (bs op) x y ?_;simp only[aAG,aAu,i64w];refine⟨fun h=>by simp[divR,h,bs],fun h=>⟨fun h1=>⟨_,_,_,aAH _,?_⟩,fun h1=>⟨fun h2=>⟨h,_,_,_,aAH _,?_⟩,fun h2=>⟨h,_,_,_,_,?_,rfl⟩⟩⟩⟩
 · obtain⟨rfl,rfl⟩:=h1;simp[divR,aTc]
 · subst h2;simp[divR,h]
 · have:=aIV (x.tdiv y)
   rw[aTi x y hx h] at this
   have e:divR op x y=fitR (x.tdiv y):=by simp[divR,h,h2]
   rw[e];exact this
def opOk (op:List UInt8):Bool:=op==[43]||op==[45]||op==[42]||op==[47]||op==[37]
def aE0 (op:List UInt8) (a b:V3):V3×Int :=
 if opOk op=true then (if a.1=0∨b.1=0 then (nul,0) else if a.1≠1∨b.1≠1 then (nul,11) else
  if op=[43] then fitR (a.2.1+b.2.1) else if op=[45] then fitR (a.2.1 - b.2.1) else if op=[42] then fitR (a.2.1*b.2.1) else divR op a.2.1 b.2.1)
 else (nul,1)
theorem aMN (op:List UInt8) (a b:V3) (ha:I64 a.2.1) (hb:I64 b.2.1):FnC Tryz.prog 73 [sD op,vD a,vD b] (.tup [vD (aE0 op a b).1,iD (aE0 op a b).2]):=by
 refine w73 (bs op) a.1 a.2.1 (bs a.2.2) b.1 b.2.1 (bs b.2.2) ?_;simp only[aAG,aAu,aAg,i64w]
 have hok:opOk op=(decide ((op.length:Int)=1)&&([43,45,42,47,37]:List UInt8).contains (op.getD 0 0)):=by
  match op with
  | []=>rfl
  | [c] =>
   apply aEz;simp only[opOk,List.contains_cons,Bool.or_eq_true,beq_iff_eq,List.cons.injEq,and_true,List.length_singleton,Bool.and_eq_true,decide_eq_true_eq,List.getD_cons_zero];simp[or_assoc]
  | _::_::_ =>
   have h1 : ∀ n:Nat,¬ ((n:Int)+1+1=1):=fun n=>by omega
   simp[opOk,h1]
 have hcall:(op.length:Int)=1→FnC Tryz.prog 98 [sD [43,45,42,47,37],sD op] (bD (([43,45,42,47,37]:List UInt8).contains (op.getD 0 0))):=fun h=>by
  match op,h with
  | [c],_=>exact aN1 _ c
  | [],h=>simp at h
  | _::_::r,h=>simp at h; omega
 refine⟨_,hcall,fun h=>?_,fun h=>?_⟩
 · have:opOk op=false:=by
    rw[hok];rcases h with h | h
    · simp[h]
    · rw[Bool.eq_false_iff.2 h,Bool.and_false]
   simp[aE0,this,bs]
 have hk:opOk op=true:=by
  rw[hok];have h1:(op.length:Int)=1:=Classical.byContradiction fun hc=>h (.inl hc);have h2:=Classical.byContradiction fun hc=>h (.inr hc);rw[h2];simp[h1]
 simp only[aE0,hk,if_true];refine⟨fun h=>by simp only[h,if_true],fun h=>⟨fun h1=>by simp only[h,if_false,h1,ne_eq,if_true],fun h1=>?_⟩⟩;simp only[h,if_false,h1,ne_eq];refine⟨fun h=>?_,fun h=>⟨fun h1=>?_,fun h1=>⟨fun h2=>?_,fun h2=>?_⟩⟩⟩
 · simp only[h,if_true];rw[aUE _ _ ha hb];exact⟨_,_,_,_,aIV _,rfl⟩
 · simp only[h,h1,if_true,if_false];rw[aVn _ _ ha hb];exact⟨_,_,_,_,aIV _,rfl⟩
 · simp only[h,h1,h2,if_true,if_false];exact⟨_,_,aQn _ _ ha hb,_,_,_,_,aIV _,rfl⟩
 · simp only[h,h1,h2,if_false];exact⟨_,_,_,_,aR3 _ _ _ ha hb,rfl⟩
def aHl (a b:V3):V3×Int:=if a.1=0∨b.1=0 then (nul,0) else if ¬ (a.1=1∨a.1=2)∨¬ (b.1=1∨b.1=2) then (nul,11)
 else if 4096<(aFx a).length+(aFx b).length then (nul,3) else ((2,0,aFx a++aFx b),0)
theorem aGE (v:V3):aJT v=if v.1=1∨v.1=2 then (aFx v,true) else ([],false):=by
 unfold aJT aFx;by_cases h1:v.1=1
 · simp[h1]
 · by_cases h2:v.1=2 <;> simp[h1,h2]
theorem aNn (v:V3) (h:I64 v.2.1) (hs:Sz v.2.2):(aFx v).length≤9223372036854775807:=by
 unfold aFx;split
 · have:=aDb v.2.1 h; omega
 · exact hs
theorem aTM (a b:V3) (ha:I64 a.2.1) (hb:I64 b.2.1) (sa:Sz a.2.2) (sb:Sz b.2.2):FnC Tryz.prog 75 [vD a,vD b] (.tup [vD (aHl a b).1,iD (aHl a b).2]):=by
 refine w75 a.1 a.2.1 (bs a.2.2) b.1 b.2.1 (bs b.2.2) ?_;simp only[aAG];refine⟨fun h=>by simp only[aHl,h,if_true],fun h=>⟨_,_,aLp a ha,_,_,aLp b hb,?_⟩⟩;simp only[aHl,h,if_false];rw[aGE,aGE];have l1:=aNn a ha sa;have l2:=aNn b hb sb;by_cases ka:a.1=1∨a.1=2
 rotate_left
 · simp only[ka,if_false,not_false_eq_true,true_or,if_true];exact⟨fun _=>trivial,fun h=>absurd (.inl (by simp)) h⟩
 by_cases kb:b.1=1∨b.1=2
 rotate_left
 · simp only[kb,if_false,not_false_eq_true,or_true,if_true];exact⟨fun _=>trivial,fun h=>absurd (.inr (by simp)) h⟩
 simp only[ka,kb,if_true,not_true,or_self,if_false,aAg,aAi];refine⟨fun h=>h.elim,fun _=>?_⟩;by_cases hl:(aFx a).length≤4096
 · rw[i64_in _ (by omega)];refine⟨fun h=>by rw[if_pos (by omega)],fun h=>⟨by omega,_,_,_,aDF _,?_⟩⟩;rw[if_neg (by omega)]
 · refine⟨fun h=>by rw[if_pos (by omega)],fun h=>absurd (.inl (by omega)) h⟩
def aIL (v:V3) (ty:Int):V3×Int :=
 if ty<0∨3<ty∨v.1<0∨3<v.1 then (nul,1) else if ty=0∨v.1=0∨ty=v.1 then (v,0)
 else if ty=1 then aFi v else ((ty,0,aFx v),0)
theorem aLq (v:V3) (ty:Int) (h:I64 v.2.1) (hs:Sz v.2.2):FnC Tryz.prog 85 [vD v,iD ty] (.tup [vD (aIL v ty).1,iD (aIL v ty).2]):=by
 refine w85 v.1 v.2.1 (bs v.2.2) ty ?_;simp only[aAG];refine⟨_,_,_,_,aSt v,_,aTS ty,?_⟩
 have hb:(aEh v).2=decide (0≤v.1∧v.1≤3):=by
  apply aEz;rw[decide_eq_true_eq];simp only[aEh]
  repeat' split
  all_goals simp
  all_goals omega
 have hb0:(0≤v.1∧v.1≤3)→((aEh v).1.1=0↔v.1=0):=fun h=>by
  simp only[aEh]
  repeat' split
  all_goals simp_all
  omega
 rw[hb];simp only[decide_eq_true_eq];refine⟨fun h=>?_,fun h=>?_⟩
 · have:ty<0∨3<ty∨v.1<0∨3<v.1:=by omega
   simp only[aIL,this,if_true]
 have h1 : ¬ (ty<0∨3<ty∨v.1<0∨3<v.1):=by omega
 rw[hb0 (by omega)];simp only[aIL,h1,if_false];refine⟨fun h=>?_,fun h=>⟨fun h2=>?_,fun h2=>⟨fun h3=>?_,fun h3=>?_⟩⟩⟩
 · rw[if_pos (by omega)]
 · subst h2;refine⟨_,_,_,_,aRG v hs,?_⟩;by_cases hv:v.1=1
   · rw[if_pos (by omega)]; simp[aFi,hv]
   · rw[if_neg (by omega),if_pos rfl]
 · rw[if_pos (by omega)]
 rw[if_neg (by omega),if_neg h2];refine⟨_,_,aLp v ‹_›,?_⟩;rw[aGE]
 have ht : ¬ (v.1=1∨v.1=2)→aFx v=v.2.2:=fun h=>by unfold aFx; rw[if_neg (fun e=>h (.inl e))]
 by_cases hv:v.1=1∨v.1=2
 · simp only[hv,if_true,not_true,false_implies,true_and,not_false_eq_true,true_implies];refine⟨fun h=>⟨_,_,_,aDF _,by rw[h]⟩,fun h=>⟨_,_,_,aGw _,?_⟩⟩
   have:ty=3:=by omega
   rw[this]
 · rw[ht hv];simp only[hv,if_false,Bool.false_eq_true,not_false_eq_true,true_implies,not_true,false_implies,and_true];refine⟨fun h=>⟨_,_,_,aDF _,by rw[h]⟩,fun h=>⟨_,_,_,aGw _,?_⟩⟩
   have:ty=3:=by omega
   rw[this]
end
section
open Go.RowKit Go.IntWalk
def tupE (r:V3×Int):DV:=.tup [vD r.1,iD r.2]
def tru (v:V3):Bool×Bool×Int:=if v.1≠0∧v.1≠1 then (false,false,11) else (v.1==1 && !(v.2.1==0),v.1==1,0)
theorem aEH (v:V3):FnC Tryz.prog 71 [vD v] (.tup [bD (tru v).1,bD (tru v).2.1,iD (tru v).2.2]):=by
 refine w71 v.1 v.2.1 (bs v.2.2) ?_;unfold tru;refine⟨fun h=>by rw[if_pos h] <;> rfl,fun h=>?_⟩;rw[if_neg h];exact⟨_,_,aI9 v,rfl⟩
def truV (is aFI:Bool):V3:=if aFI=true then (1,if is then 1 else 0,[]) else nul
theorem aFb (is aFI:Bool):FnC Tryz.prog 72 [bD is,bD aFI] (vD (truV is aFI)):=by
 refine w72 is aFI ?_;unfold truV;refine⟨fun h=>by rw[if_neg h]; rfl,fun h=>?_⟩;rw[if_pos (Classical.not_not.1 h)];exact⟨_,_,_,aFM is,rfl⟩
def aNX (v:V3) (no:Bool):V3:=truV (!((v.1==1 && !(v.2.1==0))==no)) (v.1==1)
theorem aKu (v:V3) (no:Bool):FnC Tryz.prog 54 [vD v,bD no] (vD (aNX v no)) :=
 w54 v.1 v.2.1 (bs v.2.2) no ⟨_,_,aI9 v,_,_,_,aFb _ _,rfl⟩
def wNot:List UInt8:=[110,111,116]
def wAnd:List UInt8:=[97,110,100]
def wOr:List UInt8:=[111,114]
def unV (op:List UInt8) (v:V3):V3×Int :=
 if op=wNot then (truV (if (!(tru v).1)=true then ((tru v).2.2==0) else false) (tru v).2.1,(tru v).2.2)
 else if op=[45] then (if v.1=0 then (nul,0) else if ¬ v.1=1 then (nul,11) else aE0 [45] (1,0,[]) v)
 else if op=[43] then (if v.1=0 then (nul,0) else if ¬ v.1=1 then (nul,11) else ((1,v.2.1,[]),0))
 else (nul,1)
theorem c_Un (op:List UInt8) (v:V3) (h:I64 v.2.1):FnC Tryz.prog 50 [sD op,vD v] (tupE (unV op v)):=by
 refine w50 (bs op) v.1 v.2.1 (bs v.2.2) ?_;simp only[aAG,aAu];unfold unV;refine⟨fun h=>?_,fun h0=>?_⟩
 · rw[if_pos (show op=wNot from h)];exact⟨_,_,_,aEH v,_,_,_,aFb _ _,rfl⟩
 rw[if_neg (show ¬ op=wNot from h0)];refine⟨fun h1=>⟨fun h2=>?_,fun h2=>⟨fun h3=>?_,fun h3=>⟨fun _=>?_,fun h4=>absurd h1 h4⟩⟩⟩,fun h1=>?_⟩
 · rw[if_pos h1,if_pos h2]; rfl
 · rw[if_pos h1,if_neg h2,if_pos h3]; rfl
 · rw[if_pos h1,if_neg h2,if_neg h3];exact⟨_,_,_,aAH 0,_,_,_,_,aMN [45] (1,0,[]) v (by constructor <;> decide) h,rfl⟩
 rw[if_neg h1];refine⟨fun h5=>⟨fun h2=>?_,fun h2=>⟨fun h3=>?_,fun h3=>⟨fun h4=>absurd h4 h1,fun _=>?_⟩⟩⟩,fun h5=>?_⟩
 · rw[if_pos h5,if_pos h2]; rfl
 · rw[if_pos h5,if_neg h2,if_pos h3]; rfl
 · rw[if_pos h5,if_neg h2,if_neg h3];exact⟨_,_,_,aAH _,rfl⟩
 · rw[if_neg h5]; rfl
def relB (op:List UInt8) (c:Int):Bool :=
 if op=[61] then c==0 else if op=[60,62] then !(c==0) else if op=[60] then decide (c<0) else if op=[60,61] then decide (c≤0) else if op=[62] then decide (0<c) else if op=[62,61] then decide (0≤c) else false
def aDt (op:List UInt8) (a b:V3):V3:=truV (relB op (cmpV a b 0)) (if (!(a.1==0))=true then !(b.1==0) else false)
theorem aJZ (op:List UInt8) (a b:V3) (ha:Sz a.2.2) (hb:Sz b.2.2):FnC Tryz.prog 57 [sD op,vD a,vD b] (vD (aDt op a b)):=by
 refine w57 (bs op) a.1 a.2.1 (bs a.2.2) b.1 b.2.1 (bs b.2.2) ⟨_,aFK a b 0 ha hb,?_⟩;simp only[aAG,aAu];unfold aDt relB
 (repeat' (first | with_reducible refine⟨fun _=>?_,fun _=>?_⟩ | fail))
 all_goals (simp only[*,if_true,if_false,if_pos,if_neg,not_false_eq_true]; exact⟨_,_,_,aFb _ _,rfl⟩)
def aGd (a b:V3) (sure:Bool):V3×Int :=
 if (tru a).2.2≠0 then (nul,(tru a).2.2) else if (tru b).2.2≠0 then (nul,(tru b).2.2)
 else if ((tru a).2.1=true∧(tru a).1=sure)∨((tru b).2.1=true∧(tru b).1=sure) then (truV sure true,0)
 else (truV (!sure) ((tru a).2.1&&(tru b).2.1),0)
theorem aPB (a b:V3) (sure:Bool):FnC Tryz.prog 56 [vD a,vD b,bD sure] (tupE (aGd a b sure)):=by
 refine w56 a.1 a.2.1 (bs a.2.2) b.1 b.2.1 (bs b.2.2) sure ?_;unfold aGd
 have e0 : ∀ {α:Type} (x y:α),(if ((0:Int)==0)=true then x else y)=x:=fun x y=>rfl
 have e1 : ∀ {α:Type} (x y:α),(if ((1:Int)==0)=true then x else y)=y:=fun x y=>rfl
 have t1 : ∀ c:Bool,(if true=true then c else false)=c:=fun c=>rfl
 have t2 : ∀ c d:Bool,(if c=true then d else false)=(c&&d):=fun c d=>by cases c <;> rfl
 refine⟨fun kn i m=>(i=0∧kn=true∧m=2)∨(i=1∧kn=(tru a).2.1∧(tru a).2.2=0∧m=1)∨(i=2∧kn=((tru a).2.1&&(tru b).2.1)∧(tru a).2.2=0∧(tru b).2.2=0∧m=0),⟨_,.inl ⟨rfl,rfl,rfl⟩⟩,?_⟩;rintro m kn i (⟨rfl,rfl,rfl⟩ | ⟨rfl,rfl,ha,rfl⟩ | ⟨rfl,rfl,ha,hb,rfl⟩)
 · refine⟨fun _=>⟨by omega,?_⟩,fun h=>absurd h (by omega)⟩;simp only[e0];refine⟨_,_,_,aEH a,fun h=>?_,fun h=>⟨1,by omega,.inr (.inl ⟨by decide,by simp,Classical.not_not.1 h,rfl⟩)⟩⟩;rw[if_pos h]; rfl
 · refine⟨fun _=>⟨by omega,?_⟩,fun h=>absurd h (by omega)⟩;simp only[e1];refine⟨_,_,_,aEH b,fun h=>?_,fun h=>⟨0,by omega,.inr (.inr ⟨by decide,by rw[t2],ha,Classical.not_not.1 h,rfl⟩)⟩⟩;rw[if_neg (by simp[ha]),if_pos h]; rfl
 · refine⟨fun h=>absurd h (by omega),fun _=>?_⟩;rw[if_neg (by simp[ha]),if_neg (by simp[hb])];refine⟨fun i m=>(i=0∧m=2)∨(i=1∧¬ ((tru a).2.1=true∧(tru a).1=sure)∧m=1)∨(i=2∧¬ (((tru a).2.1=true∧(tru a).1=sure)∨((tru b).2.1=true∧(tru b).1=sure))∧m=0),⟨_,.inl ⟨rfl,rfl⟩⟩,?_⟩;rintro m i (⟨rfl,rfl⟩ | ⟨rfl,h1,rfl⟩ | ⟨rfl,h1,rfl⟩)
   · refine⟨fun _=>⟨by omega,?_⟩,fun h=>absurd h (by omega)⟩;simp only[e0];refine⟨_,_,_,aEH a,fun h=>?_,fun h=>⟨1,by omega,.inr (.inl ⟨by decide,h,rfl⟩)⟩⟩;rw[if_pos (.inl h)];exact⟨_,_,_,aFM sure,rfl⟩
   · refine⟨fun _=>⟨by omega,?_⟩,fun h=>absurd h (by omega)⟩;simp only[e1];refine⟨_,_,_,aEH b,fun h=>?_,fun h=>⟨0,by omega,.inr (.inr ⟨by decide,fun e=>e.elim h1 h,rfl⟩)⟩⟩;rw[if_pos (.inr h)];exact⟨_,_,_,aFM sure,rfl⟩
   · refine⟨fun h=>absurd h (by omega),fun _=>?_⟩;rw[if_neg h1];exact⟨_,_,_,aFb _ _,rfl⟩
def arOp (op:List UInt8):Prop:=op=[42]∨op=[47]∨op=[37]∨op=[43]∨op=[45]
def cmOp (op:List UInt8):Prop:=op=[61]∨op=[60,62]∨op=[60]∨op=[60,61]∨op=[62]∨op=[62,61]
instance (op:List UInt8):Decidable (arOp op):=by unfold arOp; infer_instance
instance (op:List UInt8):Decidable (cmOp op):=by unfold cmOp; infer_instance
def binV (op:List UInt8) (a b:V3):V3×Int :=
 if op=[124,124] then aHl a b else if arOp op then aE0 op a b else if cmOp op then (aDt op a b,0) else if op=wAnd then aGd a b false else if op=wOr then aGd a b true else (nul,1)
theorem aVI (op:List UInt8) (a b:V3) (ha:I64 a.2.1) (hb:I64 b.2.1) (sa:Sz a.2.2) (sb:Sz b.2.2):FnC Tryz.prog 51 [sD op,vD a,vD b] (tupE (binV op a b)):=by
 have cj:=aTM a b ha hb sa sb;have ca:=aMN op a b ha hb;have ch:=aJZ op a b sa sb;refine w51 (bs op) a.1 a.2.1 (bs a.2.2) b.1 b.2.1 (bs b.2.2) ?_;simp only[aAG,aAu];unfold binV;refine⟨fun h=>?_,fun h0=>?_⟩
 · rw[if_pos h]; exact⟨_,_,_,_,cj,rfl⟩
 rw[if_neg h0]
 have yes:arOp op→∃ x7 x8 x9 x10,FnC Tryz.prog 73 [sD op,vD a,vD b] (.tup [.agg [.v (.int .i64 x7),.v (.int .i64 x8),.v (.string x9)],.c (.v (.int .i64 x10))])∧DV.tup [.agg [.v (.int .i64 x7),.v (.int .i64 x8),.v (.string x9)],.c (.v (.int .i64 x10))]=tupE (if arOp op then aE0 op a b else if cmOp op then (aDt op a b,0) else if op=wAnd then aGd a b false else if op=wOr then aGd a b true else (nul,1)):=fun h=>by
  rw[if_pos h]; exact⟨_,_,_,_,ca,rfl⟩
 refine⟨fun h=>yes (.inl h),fun g1=>⟨fun h=>yes (.inr (.inl h)),fun g2=>⟨fun h=>yes (.inr (.inr (.inl h))),fun g3=>⟨fun h=>yes (.inr (.inr (.inr (.inl h)))),fun g4=>⟨fun h=>yes (.inr (.inr (.inr (.inr h)))),fun g5=>?_⟩⟩⟩⟩⟩
 have na : ¬ arOp op:=by rintro (h | h | h | h | h) <;> contradiction
 rw[if_neg na]
 have yes2:cmOp op→∃ x7 x8 x9,FnC Tryz.prog 57 [sD op,vD a,vD b] (.agg [.v (.int .i64 x7),.v (.int .i64 x8),.v (.string x9)])∧DV.tup [.agg [.v (.int .i64 x7),.v (.int .i64 x8),.v (.string x9)],.c (.v (.int .i64 0))]=tupE (if cmOp op then (aDt op a b,0) else if op=wAnd then aGd a b false else if op=wOr then aGd a b true else (nul,1)):=fun h=>by
  rw[if_pos h]; exact⟨_,_,_,ch,rfl⟩
 refine⟨fun h=>yes2 (.inl h),fun g6=>⟨fun h=>yes2 (.inr (.inl h)),fun g7=>⟨fun h=>yes2 (.inr (.inr (.inl h))),fun g8=>⟨fun h=>yes2 (.inr (.inr (.inr (.inl h)))),fun g9=>⟨fun h=>yes2 (.inr (.inr (.inr (.inr (.inl h))))),fun g10=>⟨fun h=>yes2 (.inr (.inr (.inr (.inr (.inr h))))),fun g11=>?_⟩⟩⟩⟩⟩⟩
 have nc : ¬ cmOp op:=by rintro (h | h | h | h | h | h) <;> contradiction
 rw[if_neg nc];refine⟨fun h=>?_,fun h1=>⟨fun h=>?_,fun h2=>?_⟩⟩
 · rw[if_pos (show op=wAnd from h)]; exact⟨_,_,_,_,aPB a b false,rfl⟩
 · rw[if_neg (show ¬ op=wAnd from h1),if_pos (show op=wOr from h)]; exact⟨_,_,_,_,aPB a b true,rfl⟩
 · rw[if_neg (show ¬ op=wAnd from h1),if_neg (show ¬ op=wOr from h2)]; rfl
end
section
open Go.RowKit Go.IntWalk
def vc (L:List V3):List (List CV):=L.map fun v=>[.v (.int .i64 v.1),.v (.int .i64 v.2.1),.v (.string (bs v.2.2))]
theorem aAz (L:List V3):(vc L).length=L.length:=by simp[vc]
theorem aAN (L:List V3) : ∀ el∈vc L,el.length=3:=by
 intro el h;simp only[vc,List.mem_map] at h;obtain⟨v,_,rfl⟩:=h;rfl
theorem aLP (L:List V3) (n:Nat):(vc L).drop n=vc (L.drop n):=by simp[vc]
theorem aF4 (L:List V3) (i:Nat) (h:i<L.length):(vc L).getD i []=[.v (.int .i64 (L.getD i nul).1),.v (.int .i64 (L.getD i nul).2.1),.v (.string (bs (L.getD i nul).2.2))]:=by simp[vc,h]
theorem vc_k (L:List V3) (i:Int) (h0:0≤i) (h:i<L.length):[4,4,10]=((((vc L).getD i.toNat []).drop 0).take 3).map aBA:=by rw[aF4 L _ (by omega)]; rfl
theorem aN0 (L:List V3) (i:Int) (h0:0≤i) (h:i<L.length):[4]=((((vc L).getD i.toNat []).drop 0).take 1).map aBA:=by rw[aF4 L _ (by omega)]; rfl
theorem aTp (L:List V3) (i:Int) (h0:0≤i) (h:i<L.length):[4]=((((vc L).getD i.toNat []).drop 1).take 1).map aBA:=by rw[aF4 L _ (by omega)]; rfl
theorem aTs (L:List V3) (i:Int) (h0:0≤i) (h:i<L.length):[10]=((((vc L).getD i.toNat []).drop 2).take 1).map aBA:=by rw[aF4 L _ (by omega)]; rfl
theorem vc_0 (L:List V3) (i:Int) (h0:0≤i) (h:i<L.length):(aAa (vc L) i 0).int=(L.getD i.toNat nul).1:=by simp only[aAa]; rw[aF4 L _ (by omega)]; rfl
theorem vc_1 (L:List V3) (i:Int) (h0:0≤i) (h:i<L.length):(aAa (vc L) i 1).int=(L.getD i.toNat nul).2.1:=by simp only[aAa]; rw[aF4 L _ (by omega)]; rfl
theorem vc_2 (L:List V3) (i:Int) (h0:0≤i) (h:i<L.length):(aAa (vc L) i 2).str=bs (L.getD i.toNat nul).2.2:=by simp only[aAa]; rw[aF4 L _ (by omega)]; rfl
theorem aBl (L:List V3) (i:Int) (h0:0≤i) (h:i<L.length):DV.agg [.v (.int .i64 (aAa (vc L) i 0).int),.v (.int .i64 (aAa (vc L) i 1).int),.v (.string (aAa (vc L) i 2).str)]=vD (L.getD i.toNat nul):=by
 rw[vc_0 L i h0 h,vc_1 L i h0 h,vc_2 L i h0 h]
theorem aUu (n:Nat):List.replicate n [CV.v (.int .i64 0),CV.v (.int .i64 0),CV.v (.string ⟨#[]⟩)]=vc (List.replicate n nul):=by
 simp only[vc,List.map_replicate]; rfl
theorem aVm (L:List V3) (K:Nat) (v:V3) (h:K<L.length):(vc L).set K (aEk ((vc L).getD K []) 0 [.v (.int .i64 v.1),.v (.int .i64 v.2.1),.v (.string (bs v.2.2))])=vc (L.set K v):=by
 rw[aF4 L K h];simp only[vc,List.map_set]; rfl
theorem aS5 (L:List V3) (n:Nat):(vc L).take n=vc (L.take n):=by simp[vc]
def Can (v:V3):Prop:=¬ (v.1<0∨3<v.1∨(v.1≠1∧v.2.1≠0)∨(v.1<2∧v.2.2≠[]))
end
section
open Go.RowKit Go.IntWalk
inductive Xp where
 | mk (k:Int) (op:List UInt8) (v:V3) (tb nm:List UInt8) (sl:Int) (nt ds:Bool) (args:List Xp)
 deriving Inhabited
mutual
def Xp.cells:Xp→List CV
 | .mk k op v tb nm sl nt ds args=>[.v (.int .i64 k),.v (.string (bs op)),.v (.int .i64 v.1),.v (.int .i64 v.2.1),.v (.string (bs v.2.2)),.v (.string (bs tb)),.v (.string (bs nm)),.v (.int .i64 sl),.v (.bool nt),.v (.bool ds),.vs (xcs args)]
def xcs:List Xp→List (List CV)
 | []=>[]
 | e::r=>e.cells::xcs r
end
def xD (e:Xp):DV:=.agg e.cells
theorem aBG : ∀ e:Xp,e.cells.length=11
 | .mk ..=>by simp[Xp.cells]
theorem aAW : ∀ l:List Xp,(xcs l).length=l.length
 | []=>rfl
 | e::r=>by simp[xcs,aAW r]
theorem aA2 : ∀ l:List Xp,∀ el∈xcs l,el.length=11
 | [],el,h=>by simp[xcs] at h
 | e::r,el,h=>by
  simp only[xcs,List.mem_cons] at h;rcases h with rfl | h
  · exact aBG e
  · exact aA2 r el h
theorem aL0 : ∀ (l:List Xp) (i:Nat) (h:i<l.length),(xcs l).getD i []=(l[i]).cells
 | [],i,h=>by simp at h
 | e::r,0,h=>rfl
 | e::r,i+1,h=>by
  have:=aL0 r i (by simpa using h)
  simpa[xcs] using this
theorem aOD : ∀ l r:List Xp,xcs (l++r)=xcs l++xcs r
 | [],r=>rfl
 | e::l,r=>by simp[xcs,aOD l r]
theorem xs_k (l:List Xp) (i:Int) (h0:0≤i) (h:i<l.length):[4,10,4,4,10,10,10,4,9,9,11]=((((xcs l).getD i.toNat []).drop 0).take 11).map aBA:=by
 rw[aL0 l _ (by omega)];cases l[i.toNat]'(by omega);simp only[Xp.cells]; rfl
theorem xs_D (l:List Xp) (i:Int) (h0:0≤i) (h:i<l.length):DV.agg [.v (.int .i64 (aAa (xcs l) i 0).int),.v (.string (aAa (xcs l) i 1).str),.v (.int .i64 (aAa (xcs l) i 2).int),.v (.int .i64 (aAa (xcs l) i 3).int),.v (.string (aAa (xcs l) i 4).str),.v (.string (aAa (xcs l) i 5).str),.v (.string (aAa (xcs l) i 6).str),.v (.int .i64 (aAa (xcs l) i 7).int),.v (.bool (aAa (xcs l) i 8).bool),.v (.bool (aAa (xcs l) i 9).bool),.vs (aAa (xcs l) i 10).els]=xD (l[i.toNat]'(by omega)):=by
 simp only[aAa];rw[aL0 l _ (by omega)];cases l[i.toNat]'(by omega);simp only[xD,Xp.cells]; rfl
def okN (k:Int) (ds:Bool) (n:Nat):Prop:=((k=1∨k=2)∧n=0)∨((k=3∨k=12)∧n=1)∨((k=4∨k=5∨k=8)∧n=2)∨(k=6∧2≤n)∨(k=7∧n=3)∨(k=9∧2≤n∧(ds=false∨3≤n))∨k=10
instance (k:Int) (ds:Bool) (n:Nat):Decidable (okN k ds n):=by unfold okN; infer_instance
def mayV (k:Int) (ds:Bool) (n:Nat):Int:=if k=11 then 26 else if okN k ds n then 0 else 1
theorem aSO (k:Int) (op:List UInt8) (v:V3) (tb nm:List UInt8) (sl:Int) (nt ds:Bool) (args:List Xp):FnC Tryz.prog 30 [xD (.mk k op v tb nm sl nt ds args)] (iD (mayV k ds args.length)):=by
 unfold xD;simp only[Xp.cells];refine w30 k (bs op) v.1 v.2.1 (bs v.2.2) (bs tb) (bs nm) sl nt ds (xcs args) ?_;rw[aAW];generalize args.length=n
 have yes:k≠11→okN k ds n→iD 0=iD (mayV k ds n):=fun h1 h2=>by rw[mayV,if_neg h1,if_pos h2]
 have no:k≠11→¬ okN k ds n→iD 1=iD (mayV k ds n):=fun h1 h2=>by rw[mayV,if_neg h1,if_neg h2]
 have dsf : ∀ {b:Bool},¬ b=true→b=false:=fun h=>by simpa using h
 (repeat' (first | with_reducible refine⟨fun _=>?_,fun _=>?_⟩ | fail))
 all_goals first
  | (refine yes (by omega) ?_; unfold okN; cases ds <;> simp at * <;> omega)
  | (refine no (by omega) ?_; unfold okN; cases ds <;> simp at * <;> omega)
  | (rw[mayV,if_pos (by assumption)] <;> rfl)
  | fail
def errV:List (V3×Int)→Int
 | []=>0
 | x::r=>if x.2=0 then errV r else x.2
theorem aQK : ∀ (X:List (V3×Int)) (i:Nat),i<X.length→(∀ j,j<i→(X.getD j (nul,0)).2=0)→(X.getD i (nul,0)).2≠0→errV X=(X.getD i (nul,0)).2
 | [],i,h,_,_=>by simp at h
 | x::r,0,h,_,hx=>by
  have hx:x.2≠0:=hx;rw[errV,if_neg hx]; rfl
 | x::r,i+1,h,hj,hx=>by
  have h0:x.2=0:=hj 0 (by omega);rw[errV,if_pos h0];exact aQK r i (by simpa using h) (fun j hji=>hj (j+1) (by omega)) hx
theorem aKI : ∀ (X:List (V3×Int)),(∀ j,j<X.length→(X.getD j (nul,0)).2=0)→errV X=0
 | [],_=>rfl
 | x::r,h=>by
  have h0:x.2=0:=h 0 (by simp);rw[errV,if_pos h0];exact aKI r fun j hj=>h (j+1) (by simpa using hj)
def finP (r:V3×Int):V3×Int:=if r.2≠0 then (nul,r.2) else (r.1,0)
def aRM (k:Int) (ds:Bool) (n:Nat) (X:List (V3×Int)) (R:V3×Int):V3×Int :=
 if mayV k ds n≠0 then (nul,mayV k ds n) else if errV X≠0 then (nul,errV X) else finP R
theorem aLy (k:Int) (op:List UInt8) (v:V3) (tb nm:List UInt8) (sl:Int) (nt ds:Bool) (args:List Xp) (row:List V3) (hk:k≠9) (hn:args.length≤1000000) (X:List (V3×Int)) (hX:X.length=args.length)
 (hA:mayV k ds args.length=0→∀ i (h:i<args.length),FnC Tryz.prog 13 [xD args[i],.c (.vs (vc row))] (tupE (X.getD i (nul,0)))) (R:V3×Int)
 (hR:mayV k ds args.length=0→errV X=0→FnC Tryz.prog 32 [xD (.mk k op v tb nm sl nt ds args),.c (.vs (vc (X.map (·.1)))),.c (.vs (vc row))] (tupE R)) :
 FnC Tryz.prog 13 [xD (.mk k op v tb nm sl nt ds args),.c (.vs (vc row))] (tupE (aRM k ds args.length X R)):=by
 have hm:=aSO k op v tb nm sl nt ds args;unfold xD at hR hm ⊢;simp only[Xp.cells] at hR hm ⊢;refine w13 k (bs op) v.1 v.2.1 (bs v.2.2) (bs tb) (bs nm) sl nt ds (xcs args) (vc row) ⟨_,hm,?_⟩;unfold aRM;refine⟨fun h=>by rw[if_pos h]; rfl,fun h=>?_⟩;rw[if_neg h];have hm0:=Classical.not_not.1 h;refine⟨fun h=>absurd h hk,fun _=>?_⟩;rw[aAW];refine⟨by omega,by omega,?_⟩;rintro x13 rfl;rw[Int.toNat_natCast,aUu,aAz,List.length_replicate];refine⟨fun rows i m=>∃ (K:Nat) (L:List V3),rows=vc L∧i=K∧K≤args.length∧L.length=args.length∧(∀ j,j<K→(X.getD j (nul,0)).2=0∧L.getD j nul=(X.getD j (nul,0)).1)∧m=args.length - K,⟨_,0,_,rfl,rfl,by omega,by simp,fun j hj=>by omega,rfl⟩,?_⟩;rintro m rows i ⟨K,L,rfl,rfl,hK,hL,hJ,rfl⟩;rw[aAz,hL];refine⟨fun hi=>⟨by omega,aA2 _,xs_k _ _ (by omega) (by omega),?_⟩,fun hi=>?_⟩
 · rw[xs_D _ _ (by omega) (by omega)];have ha:=hA hm0 K (by omega)
   have e:args[(K:Int).toNat]'(by omega)=args[K]'(by omega):=by simp
   rw[e];refine⟨_,_,_,_,ha,fun h=>?_,fun h=>⟨by omega,by omega,?_⟩⟩
   · have:=aQK X K (by omega) (fun j hj=>(hJ j hj).1) h
     rw[if_pos (by rw[this]; exact h),this]; rfl
   · rintro x20 rfl;refine⟨args.length - (K+1),by omega,K+1,L.set K (X.getD K (nul,0)).1,?_,by rw[i64_in _ (by omega)]; omega,by omega,by simpa using hL,fun j hj=>?_,rfl⟩
     · rw[Int.toNat_natCast];exact aVm L K _ (by omega)
     · by_cases ej:j=K
       · subst ej;refine⟨Classical.not_not.1 h,?_⟩;rw[List.getD_eq_getElem?_getD,List.getElem?_set_self (by omega)]; rfl
       · refine⟨(hJ j (by omega)).1,?_⟩;rw[List.getD_eq_getElem?_getD,List.getElem?_set_ne (by omega),←List.getD_eq_getElem?_getD];exact (hJ j (by omega)).2
 · have eK:K=args.length:=by omega
   subst eK;have he:=aKI X fun j hj=>(hJ j (by omega)).1;rw[if_neg (by rw[he]; exact fun h=>h rfl)]
   have eL:L=X.map (·.1):=by
    apply List.ext_getElem (by simp[hL,hX]);intro j h1 h2
    have:=(hJ j (by omega)).2
    rw[List.getD_eq_getElem?_getD,List.getElem?_eq_getElem h1,List.getD_eq_getElem?_getD,List.getElem?_eq_getElem (by omega)] at this;simpa using this
   have hr:=hR hm0 he;rw[←eL] at hr;rw[Int.toNat_natCast,aS5,←hL,List.take_length];refine⟨by omega,_,_,_,_,hr,fun h=>?_,fun h=>?_⟩
   · rw[finP,if_pos h]; rfl
   · rw[finP,if_neg h]; rfl
end
end Go.Proofs.YtcdeimjlgpfjiaaGreatDoor
