/- Patterns: which texts a pattern stands for, from its front and from its end; the walk that goes back to the last star. Plain. No condition. -/
import Derived.Test.YtcdeimjlgpfjiaaGreatDoorG12
import Derived.Lib.SplitLaws
import Derived.Test.YtcdeimjlgpfjiaaGreatDoorRows
import Derived.WalkKit
import Derived.ProofKit
import Derived.OpenShut
import Derived.WalkSpells
import Derived.WalkLawsBesides
import Derived.BigQuiet
import Derived.Lib.Hide
import Derived.Deep.Slices
set_option linter.unusedSimpArgs false
set_option linter.unusedVariables false
namespace Go.Proofs.YtcdeimjlgpfjiaaGreatDoor
section
def Lik:List UInt8→List UInt8→Prop
 | [],s=>s=[]
 | d::p,s=>(d=37∧∃ n,n≤s.length∧Lik p (s.drop n))∨(d≠37∧∃ c t,s=c::t∧(d=95∨d=c)∧Lik p t)
section
variable (s p:List UInt8)
def LikM (i k:Nat):Prop:=Lik (p.drop k) (s.drop i)
theorem aIu (l:List UInt8) (i:Nat) (h:i<l.length):l.drop i=l.getD i 0::l.drop (i+1):=by
 rw[List.drop_eq_getElem_cons h]
 congr 1
 simp[List.getD_eq_getElem?_getD,h]
theorem aUA (i:Nat) (hi:i≤s.length):LikM s p i p.length↔i=s.length:=by
 unfold LikM;rw[List.drop_length];simp only[Lik]
 constructor
 · intro h
   have:=congrArg List.length h
   simp at this;omega
 · intro h; rw[h,List.drop_length]
theorem aMQ (i k:Nat) (hi:i≤s.length) (hk:k<p.length) (h:p.getD k 0=37):LikM s p i k↔∃ j,i≤j∧j≤s.length∧LikM s p j (k+1):=by
 unfold LikM;rw[aIu p k hk,h];simp only[Lik,true_and,ne_eq,not_true,false_and,or_false,List.length_drop,List.drop_drop]
 constructor
 · rintro⟨n,hn,h⟩;exact⟨i+n,by omega,by omega,h⟩
 · rintro⟨j,h1,h2,h⟩;exact⟨j - i,by omega,by rwa [show i+(j - i)=j by omega]⟩
theorem aTY (i k:Nat) (hi:i<s.length) (hk:k<p.length) (h:p.getD k 0≠37):LikM s p i k↔(p.getD k 0=95∨p.getD k 0=s.getD i 0)∧LikM s p (i+1) (k+1):=by
 unfold LikM;rw[aIu p k hk,aIu s i hi];simp only[Lik,h,false_and,ne_eq,not_false_eq_true,true_and,false_or,List.cons.injEq]
 constructor
 · rintro⟨c,t,⟨rfl,rfl⟩,hc,h⟩;exact⟨hc,h⟩
 · rintro⟨hc,h⟩;exact⟨_,_,⟨rfl,rfl⟩,hc,h⟩
theorem aVw (k:Nat) (hk:k<p.length) (h:p.getD k 0≠37) : ¬ LikM s p s.length k:=by
 unfold LikM;rw[aIu p k hk,List.drop_length];simp only[Lik,h,false_and,ne_eq,not_false_eq_true,true_and,false_or];rintro⟨c,t,ht,_⟩;cases ht
theorem aLl : ∀ (n a j:Nat),a+n≤p.length→j≤s.length→(∀ t,a≤t→t<a+n→p.getD t 0≠37)→LikM s p j a→j+n≤s.length∧LikM s p (j+n) (a+n)
 | 0,a,j,_,hj,_,h=>⟨by omega,h⟩
 | n+1,a,j,ha,hj,hno,h=>by
  have h0:=hno a (by omega) (by omega);by_cases he:j=s.length
  · subst he;exact absurd h (aVw s p a (by omega) h0)
  · have h1:=((aTY s p j a (by omega) (by omega) h0).1 h).2;obtain⟨h2,h3⟩:=aLl n (a+1) (j+1) (by omega) (by omega) (fun t h1 h2=>hno t (by omega) (by omega)) h1;exact⟨by omega,by rwa [show j+(n+1)=j+1+n by omega,show a+(n+1)=a+1+n by omega]⟩
structure LkAt (i k back star:Nat):Prop where
 hi:i≤s.length
 hk:k≤p.length
 hb:back≤i
 no:star=0→(LikM s p 0 0↔LikM s p i k)
 yes:star≠0→star≤k∧p.getD (star - 1) 0=37∧i - back=k - star∧(∀ t,star≤t→t<k→p.getD t 0≠37)∧(LikM s p 0 0↔LikM s p i k∨∃ j,back<j∧j≤s.length∧LikM s p j star)
theorem LkAt.start:LkAt s p 0 0 0 0:=⟨by omega,by omega,by omega,fun _=>Iff.rfl,fun h=>absurd rfl h⟩
variable {s p} {i k back star:Nat}
theorem LkAt.now (h:LkAt s p i k back star) (hk:k<p.length) (hs:p.getD k 0=37):LikM s p 0 0↔LikM s p i k:=by
 by_cases h0:star=0
 · exact h.no h0
 · obtain⟨h1,h2,h3,h4,h5⟩:=h.yes h0;rw[h5]
   constructor
   · rintro (hm | ⟨j,hj1,hj2,hm⟩)
     · exact hm
     · have hb:=h.hb;obtain⟨h6,h7⟩:=aLl s p (k - star) star j (by omega) hj2 (fun t ht1 ht2=>h4 t ht1 (by omega)) hm;rw[show star+(k - star)=k by omega] at h7;rw[aMQ s p _ k h6 hk hs] at h7;obtain⟨j',hj1',hj2',hm'⟩:=h7;exact (aMQ s p i k h.hi hk hs).2 ⟨j',by omega,hj2',hm'⟩
   · exact .inl
theorem LkAt.newStar (h:LkAt s p i k back star) (hk:k<p.length) (hs:p.getD k 0=37):LkAt s p i (k+1) i (k+1):=by
 have hn:=h.now hk hs;refine⟨h.hi,by omega,by omega,fun e=>by omega,fun _=>⟨by omega,by simpa using hs,by omega,fun t h1 h2=>by omega,?_⟩⟩;rw[hn,aMQ s p i k h.hi hk hs]
 constructor
 · rintro⟨j,h1,h2,h3⟩;by_cases e:j=i
   · subst e; exact .inl h3
   · exact .inr ⟨j,by omega,h2,h3⟩
 · rintro (h3 | ⟨j,h1,h2,h3⟩)
   · exact⟨i,by omega,h.hi,h3⟩
   · exact⟨j,by omega,h2,h3⟩
theorem LkAt.step (h:LkAt s p i k back star) (hi:i<s.length) (hk:k<p.length) (hs:p.getD k 0≠37) (hc:p.getD k 0=95∨p.getD k 0=s.getD i 0):LkAt s p (i+1) (k+1) back star:=by
 have hm:LikM s p i k↔LikM s p (i+1) (k+1):=by
  rw[aTY s p i k hi hk hs];exact⟨fun h=>h.2,fun h=>⟨hc,h⟩⟩
 have hb:=h.hb;refine⟨by omega,by omega,by omega,fun e=>by rw[h.no e,hm],fun e=>?_⟩;obtain⟨h1,h2,h3,h4,h5⟩:=h.yes e;refine⟨by omega,h2,by omega,fun t ht1 ht2=>?_,by rw[h5,hm]⟩;by_cases et:t=k
 · rw[et]; exact hs
 · exact h4 t ht1 (by omega)
theorem LkAt.miss (h:LkAt s p i k back star) (hi:i<s.length) (hn:k=p.length∨(k<p.length∧p.getD k 0≠37∧¬ (p.getD k 0=95∨p.getD k 0=s.getD i 0))) : ¬ LikM s p i k:=by
 rcases hn with e | ⟨h1,h2,h3⟩
 · rw[e,aUA s p i (by omega)];omega
 · rw[aTY s p i k hi h1 h2];exact fun hm=>h3 hm.1
theorem LkAt.back' (h:LkAt s p i k back star) (hi:i<s.length) (h0:star≠0) (hm : ¬ LikM s p i k):LkAt s p (back+1) star (back+1) star:=by
 obtain⟨h1,h2,h3,h4,h5⟩:=h.yes h0;have hb:=h.hb;have hk:=h.hk;refine⟨by omega,by omega,by omega,fun e=>absurd e h0,fun _=>⟨by omega,h2,by omega,fun t ht1 ht2=>by omega,?_⟩⟩;rw[h5]
 constructor
 · rintro (hc | ⟨j,hj1,hj2,hc⟩)
   · exact absurd hc hm
   · by_cases e:j=back+1
     · subst e; exact .inl hc
     · exact .inr ⟨j,by omega,hj2,hc⟩
 · rintro (hc | ⟨j,hj1,hj2,hc⟩)
   · exact .inr ⟨back+1,by omega,by omega,hc⟩
   · exact .inr ⟨j,by omega,hj2,hc⟩
theorem LkAt.fin (h:LkAt s p i k back star) (hi:i=s.length):LikM s p 0 0↔LikM s p s.length k:=by
 subst hi;by_cases h0:star=0
 · exact h.no h0
 · obtain⟨h1,h2,h3,h4,h5⟩:=h.yes h0;have hb:=h.hb;have hk:=h.hk;rw[h5]
   constructor
   · rintro (hm | ⟨j,hj1,hj2,hm⟩)
     · exact hm
     · obtain⟨h6,_⟩:=aLl s p (k - star) star j (by omega) hj2 (fun t ht1 ht2=>h4 t ht1 (by omega)) hm;omega
   · exact .inl
theorem aVf (hk:k<p.length) (hs:p.getD k 0=37):LikM s p s.length k↔LikM s p s.length (k+1):=by
 rw[aMQ s p s.length k (Nat.le_refl _) hk hs]
 constructor
 · rintro⟨j,h1,h2,h3⟩
   rwa [show j=s.length by omega] at h3
 · intro h; exact⟨s.length,Nat.le_refl _,Nat.le_refl _,h⟩
end
end
section
open Go.RowKit Go.IntWalk
def Sm (l:List UInt8):Prop:=l.length≤1100000
theorem Sm.sz {l:List UInt8} (h:Sm l):Sz l:=by unfold Sm at h; unfold Sz; omega
theorem aDx (l:List UInt8) (i:Nat) (h:i<l.length):l.take (i+1)=l.take i++[l.getD i 0]:=by
 rw[List.take_add_one]
 congr 1
 simp[List.getD_eq_getElem?_getD,h]
theorem aQZ (i:Int) (h:0≤i):(i+1).toNat=i.toNat+1:=by omega
def aU2 (c:UInt8):Bool:=decide (97≤c.toNat∧c.toNat≤122)||decide (65≤c.toNat∧c.toNat≤90)
end
section
open Go.RowKit Go.IntWalk
def sgn (n:Nat):UInt8:=([48,49,50,51,52,53,54,55,56,57,97,98,99,100,101,102]:List UInt8).getD n 0
def hex1 (c:UInt8):List UInt8:=[sgn (c.toNat / 16),sgn (c.toNat % 16)]
def hexL (l:List UInt8):List UInt8:=l.flatMap hex1
theorem aIU (l:List UInt8):(hexL l).length=2*l.length:=by
 induction l with
 | nil=>rfl
 | cons a l ih =>
  show ((hex1 a)++hexL l).length=_;rw[List.length_append,ih];simp[hex1];omega
theorem aOQ (l:List UInt8) (c:UInt8):hexL (l++[c])=hexL l++hex1 c:=by simp[hexL]
theorem low4 (c:UInt8):IntKind.wrap .u8 (((BitVec.ofInt (IntKind.bits .u8) (c.toNat:Int) &&& BitVec.ofInt (IntKind.bits .u8) 15).toNat:Nat):Int)=((c.toNat % 16:Nat):Int):=by
 have h : ∀ n:Fin 256,IntKind.wrap .u8 (((BitVec.ofInt (IntKind.bits .u8) (n.val:Int) &&& BitVec.ofInt (IntKind.bits .u8) 15).toNat:Nat):Int)=((n.val % 16:Nat):Int):=by decide +kernel
 exact h ⟨c.toNat,c.toNat_lt⟩
theorem aVL (c:UInt8):Int.fdiv (c.toNat:Int) (2 ^ 4)=((c.toNat / 16:Nat):Int):=by
 rw[Int.fdiv_eq_ediv_of_nonneg _ (by decide)]
 have:(2:Int) ^ 4=16:=by decide
 omega
theorem aSB (l:List UInt8) (hs:Sm l):FnC Tryz.prog 34 [sD l] (sD (hexL l)):=by
 unfold Sm at hs;refine w34 (bs l) ?_;simp only[aAg,aAr,aAG];rw[i64_in _ (by omega)];refine⟨by omega,by omega,fun x1 hx1=>?_⟩
 have e0:x1=bc []:=by rw[hx1]; rfl
 subst e0;refine⟨fun rows i k=>0≤i∧i≤l.length∧rows=bc (hexL (l.take i.toNat))∧k=l.length - i.toNat,⟨_,by omega,by omega,by simp[hexL],rfl⟩,?_⟩;rintro k rows i ⟨h0,h1,rfl,rfl⟩
 have hlen:(hexL (l.take i.toNat)).length=2*i.toNat:=by rw[aIU,List.length_take]; omega
 rw[aVL,low4];have hb:=(l.getD i.toNat 0).toNat_lt;refine⟨fun hi=>⟨by omega,by omega,by omega,by omega,fun x4 hx4=>?_⟩,fun hi=>?_⟩
 · have e4:x4=bc (hex1 (l.getD i.toNat 0)):=by
    rw[hx4];simp only[bc,hex1,sgn,List.map_cons,List.map_nil,Int.toNat_natCast]
   subst e4;rw[aBu,aBu,hlen];refine⟨by simp only[hex1,List.length_cons,List.length_nil]; omega,fun x5 hx5=>?_⟩;rw[aER] at hx5;subst hx5;rw[i64_in _ (by omega)];refine⟨_,?_,by omega,by omega,?_,rfl⟩
   · omega
   · rw[aQZ i h0,aDx l _ (by omega),aOQ]
 · rw[show i.toNat=l.length by omega,List.take_length,aTz];exact⟨aEq _,rfl⟩
theorem aLg (l:List UInt8) (i:Nat) (h:i<l.length):(l.take (i+1)).drop i=[l.getD i 0]:=by
 rw[aDx l i h,List.drop_append_of_le_length (by simp; omega),List.drop_of_length_le (by rw[List.length_take]; omega)];rfl
def dbl1 (c:UInt8):List UInt8:=if c=39 then [39,39] else [c]
def dblL (l:List UInt8):List UInt8:=l.flatMap dbl1
theorem aMs (l:List UInt8):(dblL l).length≤2*l.length:=by
 induction l with
 | nil=>simp[dblL]
 | cons a l ih =>
  show (dbl1 a++dblL l).length≤_;rw[List.length_append]
  have:(dbl1 a).length≤2:=by unfold dbl1; split <;> simp
  simp
  omega
theorem aLz (b:UInt8) (hb:b≠39) (m:List UInt8) (k:Nat):Lib.replaceK [39] [39,39] k (b::m)=b::Lib.replaceK [39] [39,39] k m:=by
 cases k with
 | zero=>rfl
 | succ k =>
  have hbe:(b==39)=false:=by simpa using hb
  have hge:=Lib.indexByte_ge m 39;rw[Lib.replaceK,Lib.replaceK,Lib.index_one,Lib.index_one,Lib.indexByte,hbe];by_cases h:Lib.indexByte m 39 = -1
  · simp[h]
  · have h1:(Lib.indexByte m 39 == -1)=false:=by simpa using h
    have h2:(Lib.indexByte m 39+1 == -1)=false:=by
     rw[beq_eq_false_iff_ne]; omega
    have h3:(Lib.indexByte m 39+1).toNat=(Lib.indexByte m 39).toNat+1:=by omega
    simp[h1,h2,h3,Nat.add_right_comm]
theorem aVX (l:List UInt8):Lib.replaceK [39] [39,39] (l.count 39) l=dblL l:=by
 induction l with
 | nil=>rfl
 | cons b m ih =>
  show _=dbl1 b++dblL m;by_cases hb:b=39
  · subst hb;rw[List.count_cons_self,Lib.replaceK_hit _ _ _ _ 0 (by rw[Lib.index_one]; simp[Lib.indexByte])];simp[dbl1,ih]
  · rw[List.count_cons_of_ne (by simpa using hb),aLz b hb,ih];simp[dbl1,hb]
theorem aQW (l:List UInt8):Lib.replaceAll l [39] [39,39]=dblL l:=by
 unfold Lib.replaceAll Lib.replace Lib.replaceNum;rw[if_neg (by decide),if_pos (.inl (by decide)),Lib.count_one];exact aVX l
theorem aVt {w:World} {X:Nat→Prop} {a b c:Value} {vs:List Value} (h:DVRs w X [.c (.v a),.c (.v b),.c (.v c)] vs):vs=[a,b,c]:=by
 match vs,h with
 | x::r,h =>
  have h':=h;simp only[DVRs,DVR] at h
  have:r=[b,c]:=aSu (w:=w) (X:=X) (by
   have h2:DVRs w X [.c (.v b),.c (.v c)] r:=h'.2;exact h2)
  subst this;obtain⟨h1,_⟩:=h;cases h1;rfl
 | [],h=>simp[DVRs] at h
theorem aKN (l:List UInt8) (hs:Sm l):FnC Tryz.prog 33 [sD l,sD [39],sD [39,39]] (sD (dblL l)):=by
 refine FnC.of (canEnter_of Tryz.func33 (by kernel_rfl) (by rfl)) fun w X vs hg _ hvs=>?_;rw[aVt hvs];obtain⟨m,hm⟩:=hg 0 (by simp[aEv]);unfold Sm at hs
 have hcb:Lib.countB (bs l) (bs [39])≤l.length:=by
  have:=Lib.countB_le (bs [39]) (by simp[aAg]) _ (bs l) (Nat.le_refl _)
  rwa [aAg] at this
 refine (Tryz.strings_ReplaceAll (bs l) (bs [39]) (bs [39,39]) m w (by rw[aAg]; omega) hm (by rw[aAg]; simp) (by rw[aAg,aAg]; simp; omega)).mono ?_;rintro e w' ⟨rfl,hb⟩;refine⟨_,rfl,?_,hb⟩;rw[aBQ,aBQ,aBQ,aQW,aAG];simp only[DVR];exact .v _ rfl
def aDn (v:V3):List UInt8:=if v.1=0 then [110,117,108,108] else if v.1=1 then numL v.2.1 else if v.1=2 then 39::(dblL v.2.2++[39]) else if v.1=3 then 120::39::(hexL v.2.2++[39]) else []
theorem aIR (v:V3) (h:I64 v.2.1) (hs:Sm v.2.2):FnC Tryz.prog 15 [vD v] (sD (aDn v)):=by
 refine w15 v.1 v.2.1 (bs v.2.2) ?_;have l1:=aMs v.2.2;have l2:=aIU v.2.2;have hs':=hs;unfold Sm at hs';simp only[aAG,aAi,aAg];refine⟨fun h0=>by simp[aDn,h0],fun h0=>⟨fun h1=>⟨_,aDD _ h,by simp[aDn,h1]⟩,fun h1=>⟨fun h2=>⟨_,aKN _ hs,?_⟩,fun h2=>⟨fun h3=>⟨_,aSB _ hs,?_⟩,fun h3=>by simp[aDn,h0,h1,h2,h3]⟩⟩⟩⟩
 · rw[aAi,aAi,aAg,aAg];refine⟨by simp; omega,by simp; omega,?_⟩;simp[aDn,h2]
 · rw[aAi,aAi,aAg,aAg];refine⟨by simp; omega,by simp; omega,?_⟩;simp[aDn,h3]
end
section
open Go.RowKit Go.IntWalk
open Classical in
noncomputable def likB (s p:List UInt8):Bool:=decide (Lik (aAn p) (aAn s))
theorem b37 (b:UInt8):((b.toNat:Int)=37)↔b=37:=⟨fun h=>aHX (by rw[h]; rfl),fun h=>by rw[h]; rfl⟩
theorem b95 (b:UInt8):((b.toNat:Int)=95)↔b=95:=⟨fun h=>aHX (by rw[h]; rfl),fun h=>by rw[h]; rfl⟩
theorem bEq (a b:UInt8):((a.toNat:Int)=(b.toNat:Int))↔a=b:=⟨aHX,fun h=>by rw[h]⟩
theorem aSE (s p:List UInt8) (hs:Sm s) (hp:Sm p):FnC Tryz.prog 80 [sD s,sD p] (bD (likB s p)):=by
 have La:=aCr s;have Lb:=aCr p;refine w80 (bs s) (bs p) ⟨bs (aAn s),aAL s hs.sz,bs (aAn p),aAL p hp.sz,?_⟩;unfold likB;unfold Sm at hs hp;generalize aAn s=a at *;generalize aAn p=b at *;simp only[aAg,aAr,b37,b95,bEq];refine⟨fun k st i bk m=>∃ K I B T:Nat,k=K∧i=I∧bk=B∧st=(T:Int) - 1∧LkAt a b I K B T∧m=(a.length - B)*(a.length+b.length+1)+(a.length - I)+(b.length - K),⟨_,0,0,0,0,rfl,rfl,rfl,rfl,.start _ _,rfl⟩,?_⟩;rintro m k st i bk ⟨K,I,B,T,rfl,rfl,rfl,rfl,h,rfl⟩;have hI:=h.hi;have hK:=h.hk;have hB:=h.hb;simp only[Int.toNat_natCast];refine⟨fun hi=>⟨fun _=>by omega,fun hc=>?_,fun hc=>⟨fun _=>by omega,fun _=>by omega,fun _=>by omega,fun hd=>?_,fun hd=>⟨fun ht=>?_,fun ht=>?_⟩⟩⟩,fun hi=>?_⟩
 · have:=Nat.mul_le_mul_right (a.length+b.length+1) (show a.length - I≤a.length - B by omega)
   exact⟨_,by omega,K+1,I,I,K+1,by rw[i64_in _ (by omega)]; omega,rfl,rfl,by omega,h.newStar (by omega) hc.2,rfl⟩
 · have hne:b.getD K 0≠37:=fun e=>hc ⟨hd.1,e⟩;exact⟨_,by omega,K+1,I+1,B,T,by rw[i64_in _ (by omega)]; omega,by rw[i64_in _ (by omega)]; omega,rfl,rfl,h.step (by omega) (by omega) hne hd.2,rfl⟩
 · have hm : ¬ LikM a b I K:=h.miss (by omega) (by
    by_cases e:K=b.length
    · exact .inl e
    · exact .inr ⟨by omega,fun e=>hc ⟨by omega,e⟩,fun e=>hd ⟨by omega,e⟩⟩)
   have h':=h.back' (by omega) (by omega) hm
   have e1:a.length - B=(a.length - (B+1))+1:=by omega
   have e2:=Nat.add_mul (a.length - (B+1)) 1 (a.length+b.length+1);rw[←e1] at e2;have hT:=(h.yes (by omega)).1;exact⟨_,by omega,T,B+1,B+1,T,by rw[i64_in _ (by omega)]; omega,by rw[i64_in _ (by omega)]; omega,by rw[i64_in _ (by omega)]; omega,rfl,h',rfl⟩
 · have hm : ¬ LikM a b I K:=h.miss (by omega) (by
    by_cases e:K=b.length
    · exact .inl e
    · exact .inr ⟨by omega,fun e=>hc ⟨by omega,e⟩,fun e=>hd ⟨by omega,e⟩⟩)
   have h0 : ¬ LikM a b 0 0:=by rw[h.no (by omega)]; exact hm
   have : ¬ Lik b a:=h0;simp[bD,this]
 · have hf:=h.fin (by omega);refine⟨fun k m=>∃ K':Nat,k=K'∧K'≤b.length∧(LikM a b 0 0↔LikM a b a.length K')∧m=b.length - K',⟨_,K,rfl,by omega,hf,rfl⟩,?_⟩;rintro m k ⟨K',rfl,hk,hl,rfl⟩;simp only[Int.toNat_natCast];refine⟨fun _=>by omega,fun hc=>?_,fun hc=>?_⟩
   · exact⟨_,by omega,K'+1,by rw[i64_in _ (by omega)]; omega,by omega,hl.trans (aVf (by omega) hc.2),rfl⟩
   · have hl:Lik b a↔LikM a b a.length K':=hl;by_cases e:K'=b.length
     · subst e
       have:Lik b a:=by rw[hl,aUA a b _ (Nat.le_refl _)]
       simp[bD,this]
     · have : ¬ Lik b a:=by rw[hl]; exact aVw a b K' (by omega) (fun e=>hc ⟨by omega,e⟩)
       simp[bD,this];omega
def bb (l:List Bool):List (List CV):=l.map fun c=>[.v (.bool c)]
end
section
open Go.RowKit Go.IntWalk
def rawL (v:V3):List UInt8:=if v.1=1 then numL v.2.1 else v.2.2
def Vs (v:V3):Prop:=I64 v.1∧I64 v.2.1∧Sm v.2.2
theorem aBv {v:V3} (h:Vs v):Sm (rawL v):=by
 unfold rawL;split
 · have:=aDb v.2.1 h.2.1
   unfold Sm; omega
 · exact h.2.2
theorem aCX (v:V3) (h:Vs v):FnC Tryz.prog 111 [vD v] (sD (rawL v)):=by
 refine w111 v.1 v.2.1 (bs v.2.2) ?_;unfold rawL;refine⟨fun e=>⟨_,aDD v.2.1 h.2.1,?_⟩,fun e=>?_⟩ <;> simp[e,sD]
theorem aL6 (n:Int):FnC Tryz.prog 113 [iD n] (.tup [vD (1,n,[]),iD 0]):=by
 refine w113 n ?_
 (try simp only[aAG,aAu,aAg,aAh,aAi,aAr])
 (repeat' (first | (with_reducible refine⟨_,(aAH _),?_⟩) | (with_reducible refine⟨_,_,(aAH _),?_⟩) | (with_reducible refine⟨_,_,_,(aAH _),?_⟩) | (with_reducible refine⟨_,_,_,_,(aAH _),?_⟩) | (with_reducible refine⟨_,fun _=>(aAH _),?_⟩) | (with_reducible refine⟨_,_,fun _=>(aAH _),?_⟩) | (with_reducible refine⟨_,_,_,fun _=>(aAH _),?_⟩) | (with_reducible refine⟨_,_,_,_,fun _=>(aAH _),?_⟩) | with_reducible refine⟨fun _=>?_,fun _=>?_⟩ | fail))
 all_goals (rfl)
theorem aCI (s:List UInt8):FnC Tryz.prog 108 [sD s] (.tup [vD (2,0,s),iD 0]):=by
 refine w108 (bs s) ?_
 (try simp only[aAG,aAu,aAg,aAh,aAi,aAr])
 (repeat' (first | (with_reducible refine⟨_,(aDF _),?_⟩) | (with_reducible refine⟨_,_,(aDF _),?_⟩) | (with_reducible refine⟨_,_,_,(aDF _),?_⟩) | (with_reducible refine⟨_,_,_,_,(aDF _),?_⟩) | (with_reducible refine⟨_,fun _=>(aDF _),?_⟩) | (with_reducible refine⟨_,_,fun _=>(aDF _),?_⟩) | (with_reducible refine⟨_,_,_,fun _=>(aDF _),?_⟩) | (with_reducible refine⟨_,_,_,_,fun _=>(aDF _),?_⟩) | with_reducible refine⟨fun _=>?_,fun _=>?_⟩ | fail))
 all_goals (rfl)
def aBW (s t:List UInt8) (i:Nat):Int :=
 if h:i+t.length≤s.length then (if (s.drop i).take t.length=t then i else if h2:i<s.length then aBW s t (i+1) else -1) else -1
termination_by s.length - i
theorem aSr (s t:List UInt8) (i:Nat) (hs:Sm s) (ht:Sm t) (hi:i≤s.length):FnC Tryz.prog 134 [sD s,sD t,iD i] (iD (aBW s t i)):=by
 refine w134 (bs s) (bs t) i ?_;unfold Sm at hs ht;simp only[aAg,aAT,aAu];refine⟨fun j m=>∃ J:Nat,j=J∧J≤s.length+1∧aBW s t i=aBW s t J∧m=s.length+1 - J,⟨_,i,rfl,by omega,rfl,rfl⟩,?_⟩;rintro m j ⟨J,rfl,hJ,hf,rfl⟩;rw[i64_in ((J:Int)+t.length) (by omega),show ((J:Int)+t.length).toNat=J+t.length by omega,Int.toNat_natCast];rw[hf,aBW]
 have e:(s.take (J+t.length)).drop J=(s.drop J).take t.length:=by rw[List.drop_take]; congr 1; omega
 rw[e];refine⟨fun h=>⟨by omega,fun h2=>?_,fun h2=>?_⟩,fun h=>?_⟩
 · rw[dif_pos (by omega),if_pos h2]
 · have h3:J<s.length:=by
    by_cases h4:J<s.length
    · exact h4
    · exfalso;apply h2
      have:t.length=0:=by omega
      rw[List.length_eq_zero_iff.1 this]; simp
   refine⟨_,?_,J+1,by rw[i64_in _ (by omega)]; omega,by omega,?_,rfl⟩
   · omega
   · rw[dif_pos (by omega),if_neg h2,dif_pos h3]
 · rw[dif_neg (by omega)]
def aMq (a b:V3):DV:=if (a.1=3)↔(b.1=3) then .tup [vD (1,aBW (rawL a) (rawL b) 0+1,[]),iD 0] else .tup [vD nul,iD 11]
theorem aJw (s t:List UInt8) : ∀ i,-1≤aBW s t i∧aBW s t i≤s.length:=fun i=>by
 induction h:s.length - i using Nat.strongRecOn generalizing i with
 | _ n ih =>
  rw[aBW];split
  · split
    · omega
    · split
      · exact ih _ (by omega) _ rfl
      · omega
  · omega
theorem aUp (a b:V3) (ha:Vs a) (hb:Vs b):FnC Tryz.prog 114 [vD a,vD b] (aMq a b):=by
 refine w114 a.1 a.2.1 (bs a.2.2) b.1 b.2.1 (bs b.2.2) ?_
 have e:(a.1==3)=(b.1==3)↔((a.1=3)↔(b.1=3)):=by
  by_cases h1:a.1=3 <;> by_cases h2:b.1=3 <;> simp[h1,h2];rw[beq_eq_false_iff_ne.2 h1,beq_eq_false_iff_ne.2 h2]
 rw[e];unfold aMq;refine⟨fun h=>?_,fun h=>?_⟩
 · rw[if_neg h]; rfl
 · rw[if_pos (Classical.not_not.1 h)]
   have:=aJw (rawL a) (rawL b) 0
   have hs:=aBv ha
   have:=hs
   unfold Sm at this;refine⟨_,aCX a ha,_,aCX b hb,_,aSr _ _ 0 hs (aBv hb) (by omega),?_⟩;rw[i64_in _ (by omega)];exact⟨_,_,_,_,aL6 _,rfl⟩
def subL (s:List UInt8) (from0:Int) (many:Option Int):List UInt8 :=
 let f:=if from0<0 then (s.length:Int)+1+from0 else if from0=0 then 1 else from0
 let hi:Int:=match many with
  | none=>s.length
  | some m=>if m<1 then 0 else f - 1+m
 (s.take hi.toNat).drop (f - 1).toNat
theorem aCE {l:List UInt8} {a b a' b':Nat} (h:(min b l.length≤a∧min b' l.length≤a')∨(a=a'∧min b l.length=min b' l.length)):(l.take b).drop a=(l.take b').drop a':=by
 have e : ∀ n:Nat,l.take n=l.take (min n l.length):=fun n=>by
  by_cases hn:n≤l.length
  · rw[Nat.min_eq_left hn]
  · rw[Nat.min_eq_right (by omega),List.take_of_length_le (by omega),List.take_length]
 rcases h with ⟨h1,h2⟩ | ⟨rfl,h⟩
 · rw[List.drop_eq_nil_of_le (by rw[List.length_take]; omega),List.drop_eq_nil_of_le (by rw[List.length_take]; omega)]
 · rw[e b,e b',h]
def subV (v:V3) (from0:Int) (many:Option Int):V3:=(if v.1=3 then 3 else 2,0,subL (rawL v) from0 many)
theorem aQu (v a:V3) (hv:Vs v) (ha:Vs a):FnC Tryz.prog 116 [.c (.vs (vc [v,a]))] (if a.1=1 then .tup [vD (subV v a.2.1 none),iD 0] else .tup [vD nul,iD 11]):=by
 refine w116 (vc [v,a]) ?_;simp only[aAz,aLP];refine⟨by simp,aAN _,vc_k _ _ (by omega) (by simp),by simp,aAN _,?_⟩;refine⟨fun i m=>(i=0∧m=1)∨(i=1∧a.1=1∧m=0),⟨_,.inl ⟨rfl,rfl⟩⟩,?_⟩;rintro m i (⟨rfl,rfl⟩ | ⟨rfl,h1,rfl⟩)
 · refine⟨fun _=>⟨by simp,aAN _,vc_k _ _ (by omega) (by simp),?_⟩,fun h=>absurd h (by simp)⟩;rw[vc_0 _ _ (by omega) (by simp)];refine⟨fun h=>?_,fun h=>?_⟩
   · rw[if_neg (show ¬ a.1=1 from h)]; rfl
   · exact⟨_,by omega,.inr ⟨by decide,Classical.not_not.1 h,rfl⟩⟩
 · refine⟨fun h=>absurd h (by simp),fun _=>?_⟩;rw[if_pos h1];refine⟨_,aCX v hv,by simp,aAN _,aTp _ _ (by omega) (by simp),?_⟩;have hr:=aBv hv;have hn:=ha.2.1;unfold Sm at hr;unfold I64 at hn;rw[vc_0 _ _ (by omega) (by simp),vc_1 _ _ (by omega) (by simp)];simp only[show ([v,a]:List V3).getD (0:Int).toNat nul=v from rfl,show ([v,a]:List V3).getD (1:Int).toNat nul=a from rfl,show (([v,a]:List V3).length:Int)=2 from rfl,aAg];unfold subV subL;generalize rawL v=s at *;generalize a.2.1=n at *;simp only[aAT,aAG]
   (repeat' (first | (exfalso; omega) | (exact absurd trivial ‹¬ True›) | (with_reducible refine⟨_,_,_,_,aCI _,?_⟩) | (with_reducible refine⟨_,_,_,aGw _,?_⟩) | with_reducible refine⟨fun _=>?_,fun _=>?_⟩ | with_reducible refine⟨⟨?_,?_,?_⟩,?_⟩ | fail))
   all_goals first
    | ((iterate 3 (try simp (disch:=omega) only [i64_in,decide_eq_true_eq,and_true,true_and,or_true,true_or] at *)); omega)
    | (rename_i e3; rw[if_pos e3]; refine congrArg (fun l=>DV.tup [vD (3,0,l),iD 0]) ?_; (first | refine aCE ?_ | (refine Eq.trans (List.take_zero (l:=s)).symm ?_; refine Eq.trans (List.drop_zero (l:=s.take 0)).symm ?_; refine aCE ?_)); (iterate 3 (try simp (disch:=omega) only [i64_in,decide_eq_true_eq,and_true,true_and,or_true,true_or] at *)); omega)
    | (rename_i e3; rw[if_neg e3]; refine congrArg (fun l=>DV.tup [vD (2,0,l),iD 0]) ?_; (first | refine aCE ?_ | (refine Eq.trans (List.take_zero (l:=s)).symm ?_; refine Eq.trans (List.drop_zero (l:=s.take 0)).symm ?_; refine aCE ?_)); (iterate 3 (try simp (disch:=omega) only [i64_in,decide_eq_true_eq,and_true,true_and,or_true,true_or] at *)); omega)
    | fail
set_option maxHeartbeats 4000000 in
theorem aP9 (v a b:V3) (hv:Vs v) (ha:Vs a) (hb:Vs b):FnC Tryz.prog 116 [.c (.vs (vc [v,a,b]))] (if a.1=1∧b.1=1 then .tup [vD (subV v a.2.1 (some b.2.1)),iD 0] else .tup [vD nul,iD 11]):=by
 refine w116 (vc [v,a,b]) ?_;simp only[aAz,aLP];refine⟨by simp,aAN _,vc_k _ _ (by omega) (by simp),by simp,aAN _,?_⟩;refine⟨fun i m=>(i=0∧m=2)∨(i=1∧a.1=1∧m=1)∨(i=2∧a.1=1∧b.1=1∧m=0),⟨_,.inl ⟨rfl,rfl⟩⟩,?_⟩;rintro m i (⟨rfl,rfl⟩ | ⟨rfl,h1,rfl⟩ | ⟨rfl,h1,h2,rfl⟩)
 · refine⟨fun _=>⟨by simp,aAN _,vc_k _ _ (by omega) (by simp),?_⟩,fun h=>absurd h (by simp)⟩;rw[vc_0 _ _ (by omega) (by simp)];refine⟨fun h=>?_,fun h=>?_⟩
   · rw[if_neg (fun e=>(show ¬ a.1=1 from h) e.1)]; rfl
   · exact⟨_,by omega,.inr (.inl ⟨by decide,Classical.not_not.1 h,rfl⟩)⟩
 · refine⟨fun _=>⟨by simp,aAN _,vc_k _ _ (by omega) (by simp),?_⟩,fun h=>absurd h (by simp)⟩;rw[vc_0 _ _ (by omega) (by simp)];refine⟨fun h=>?_,fun h=>?_⟩
   · rw[if_neg (fun e=>(show ¬ b.1=1 from h) e.2)]; rfl
   · exact⟨_,by omega,.inr (.inr ⟨by decide,h1,Classical.not_not.1 h,rfl⟩)⟩
 · refine⟨fun h=>absurd h (by simp),fun _=>?_⟩;rw[if_pos ⟨h1,h2⟩];refine⟨_,aCX v hv,by simp,aAN _,aTp _ _ (by omega) (by simp),?_⟩;have hr:=aBv hv;have hn:=ha.2.1;have hm:=hb.2.1;unfold Sm at hr;unfold I64 at hn hm;rw[vc_0 _ _ (by omega) (by simp),vc_1 _ _ (by omega) (by simp)];rw[vc_1 _ (2:Int) (by omega) (by simp)];simp only[show ([v,a,b]:List V3).getD (0:Int).toNat nul=v from rfl,show ([v,a,b]:List V3).getD (1:Int).toNat nul=a from rfl,show ([v,a,b]:List V3).getD (2:Int).toNat nul=b from rfl,show (([v,a,b]:List V3).length:Int)=3 from rfl,aAg];unfold subV subL;generalize rawL v=s at *;generalize a.2.1=n at *;generalize b.2.1=k at *;have vk1:(∀ el∈vc [v,a,b],el.length=3):=aAN _;have vk2:[4]=((((vc [v,a,b]).getD (2:Int).toNat []).drop 1).take 1).map aBA:=aTp _ _ (by omega) (by simp);simp only[aAT,aAG]
   (repeat' (first | (exfalso; omega) | (exact absurd trivial ‹¬ True›) | (with_reducible refine⟨_,_,_,_,aCI _,?_⟩) | (with_reducible refine⟨_,_,_,aGw _,?_⟩) | with_reducible refine⟨fun _=>?_,fun _=>?_⟩ | with_reducible refine⟨⟨by omega,by omega⟩,vk1,vk2,?_⟩ | with_reducible refine⟨⟨?_,?_,?_⟩,?_⟩ | fail))
   all_goals first
    | ((iterate 3 (try simp (disch:=omega) only [i64_in,decide_eq_true_eq,and_true,true_and,or_true,true_or] at *)); omega)
    | (rename_i e3; rw[if_pos e3]; refine congrArg (fun l=>DV.tup [vD (3,0,l),iD 0]) ?_; (first | refine aCE ?_ | (refine Eq.trans (List.take_zero (l:=s)).symm ?_; refine Eq.trans (List.drop_zero (l:=s.take 0)).symm ?_; refine aCE ?_)); (iterate 3 (try simp (disch:=omega) only [i64_in,decide_eq_true_eq,and_true,true_and,or_true,true_or] at *)); omega)
    | (rename_i e3; rw[if_neg e3]; refine congrArg (fun l=>DV.tup [vD (2,0,l),iD 0]) ?_; (first | refine aCE ?_ | (refine Eq.trans (List.take_zero (l:=s)).symm ?_; refine Eq.trans (List.drop_zero (l:=s.take 0)).symm ?_; refine aCE ?_)); (iterate 3 (try simp (disch:=omega) only [i64_in,decide_eq_true_eq,and_true,true_and,or_true,true_or] at *)); omega)
    | fail
end
section
open Go.ChangeShapes Go.WideShapes Go.ChangeAt Go.RowKit
theorem aAP {P:Program} {id:Nat} {ops:Array Oper} {Q:Exit→Act→World→Prop} {a:Act} {w:World} (h:(Code.region id ops true).wp P Q a w):(Code.region id ops true).wp P Q a w:=h
def Ret (v:Value) (w:World) (e:Ending) (w':World):Prop:=e = .returned v∧Below w.heap.size w w'
structure Later (w:World) where
 world:World
 below:Below w.heap.size w world
instance (w:World):Nonempty (Later w):=⟨⟨w,Below.refl _ _⟩⟩
end
end Go.Proofs.YtcdeimjlgpfjiaaGreatDoor
def Go.World.plus (w : Go.World) (x : Go.Proofs.YtcdeimjlgpfjiaaGreatDoor.Later w) : Go.World := x.world
namespace Go.Proofs.YtcdeimjlgpfjiaaGreatDoor
section
open Go.ChangeShapes Go.WideShapes Go.ChangeAt Go.RowKit
theorem aQc (w:World) (x:Later w) (b o:Nat) (h:b<w.heap.size):(w.plus x).cell? ⟨b,o,none⟩=w.cell? ⟨b,o,none⟩:=x.below.cell (p:=⟨b,o,none⟩) h
theorem aLn (w:World) (x:Later w) (b o:Nat) (h:b<w.heap.size):(w.plus x).frozen? ⟨b,o,none⟩=w.frozen? ⟨b,o,none⟩:=x.below.frozen (p:=⟨b,o,none⟩) h
attribute [go_sem] aQc aLn
end
section
open Go.RowKit
theorem aMX {n:Int} (h:(Lit.int .i64 n).wf=true):I64 n:=by simpa[Lit.wf,IntKind.min,IntKind.max,IntKind.bits,IntKind.signed] using h
end
section
open Go.RowKit Go.ChangeShapes Go.WideShapes
theorem CVRs.at {w:World} {X:Nat→Prop} : ∀ {cs:List CV} {rs:List Value},CVRs w X cs rs→∀ (f:Nat) (c:CV),cs[f]? = some c→∃ r,rs[f]? = some r∧CVR w X c r
 | [],[],_,f,c,h=>by simp at h
 | c0::cs,r::rs,hr,0,c,h=>by
  simp only[CVRs] at hr;simp only[List.getElem?_cons_zero,Option.some.injEq] at h;subst h;exact⟨r,rfl,hr.1⟩
 | c0::cs,r::rs,hr,f+1,c,h=>by
  simp only[CVRs] at hr;simp only[List.getElem?_cons_succ] at h ⊢;exact CVRs.at hr.2 f c h
 | [],_::_,hr,_,_,_=>by simp only[CVRs] at hr
 | _::_,[],hr,_,_,_=>by simp only[CVRs] at hr
theorem CVRs.len {w:World} {X:Nat→Prop} : ∀ {cs:List CV} {rs:List Value},CVRs w X cs rs→cs.length=rs.length
 | [],[],_=>rfl
 | c0::cs,r::rs,hr=>by
  simp only[CVRs] at hr;simp only[List.length_cons,CVRs.len hr.2]
 | [],_::_,hr=>by simp only[CVRs] at hr
 | _::_,[],hr=>by simp only[CVRs] at hr
theorem ret_ofF {P:Program} {f:FuncId} {args:List DV} (hent:aBU P f) (h:FnC P f args (bD true)) (vs:Array Value) (w:World) (hg:Glo w) (hv:DVRs w (fun _=>False) args vs.toList):Calls P f vs w (Ret (.bool true) w):=by
 have:=h.calls hent w (fun _=>False) vs.toList hg (fun _ h=>h.elim) hv
 refine Calls.mono (by simpa using this) ?_;rintro e w' ⟨v,rfl,hr,hb⟩;simp only[DVR] at hr;cases hr;exact⟨rfl,hb⟩
section
variable {H:Type} {enc:TypeId×Value→H} {P:Program} {W:World}
end
end
section
open Go.RowKit Go.ChangeShapes Go.WideShapes Go.IntWalk
theorem vals_D {w:World} {L:List V3} {v:Value} (h:CVR w (fun _=>False) (.vs (vc L)) v):DVR w (fun _=>False) (.c (.vs (vc L))) v:=by
 simp only[DVR]; exact h
end
section
open Go.RowKit Go.ChangeShapes Go.WideShapes
mutual
def Xi:Xp→Prop
 | .mk k op v tb nm sl nt ds args=>I64 v.2.1∧(I64 sl∧I64 k∧I64 v.1∧op.length≤maxLen∧v.2.2.length≤maxLen∧tb.length≤maxLen∧nm.length≤maxLen)∧args.length≤maxLen∧Xis args
def Xis:List Xp→Prop
 | []=>True
 | e::r=>Xi e∧Xis r
end
section
variable {H:Type} {enc:TypeId×Value→H} {P:Program} {W:World}
theorem aFQ {t e:TypeId} (ht:P.underlying t=some (.slice e)) (hpos:0<P.cellsOf e) (Q:List CV→DataW H→Prop) {fuel:Nat}
 (hel : ∀ n,n<fuel→∀ cs y,DataW.trod enc P W 0 (fun _=>true) true n e cs=some y→∃ el:List CV,CVRs W (fun _=>False) el cs∧Q el y.1)
 {v:Value} {x:DataW H×List MemPlace} (h:DataW.trod enc P W 0 (fun _=>true) true fuel t [v]=some x) :
 ∃ (els:List (List CV)) (ds:List (DataW H)),CVR W (fun _=>False) (.vs els) v∧els.length≤maxLen∧ds.length=els.length∧(∀ (i:Nat) (el:List CV) (d:DataW H),els[i]? = some el→ds[i]? = some d→Q el d)∧Rows.uptoBulkAll ds+1≤Rows.uptoBulk x.1:=by
 rcases DataW.trod_slice ht h with ⟨h0,rfl⟩ | ⟨a,len,cap,elems,rest,n,hfu,hv,rfl,hb,hl,hm,hlen,hx,hsp,_⟩
 · simp only[List.cons.injEq,and_true] at h0;subst h0;exact⟨[],[],.nil _,Nat.zero_le _,rfl,fun i el d hi=>by simp at hi,by simp[Rows.uptoBulk,Rows.uptoBulkAll]⟩
 · simp only[List.cons.injEq,and_true] at hv;subst hv;subst hlen
   have bulk:Rows.uptoBulkAll (elems.map (·.1))+1≤Rows.uptoBulk (.slice (elems.map (·.1)) (rest.map (·.1)):DataW H):=by
    simp only[Rows.uptoBulk]; omega
   by_cases hc0:cap=0
   · have hz:elems.length=0:=by omega
     have hz':=List.length_eq_zero_iff.1 hz;subst hz' hc0;exact⟨[],[],.nil _,Nat.zero_le _,rfl,fun i el d hi=>by simp at hi,by simpa using bulk⟩
   have each : ∀ i,i<elems.length→∃ q:List CV×List Value,W.cells? 0 (a.add (i*P.cellsOf e)) (P.cellsOf e)=some q.2∧CVRs W (fun _=>False) q.1 q.2∧∃ y,elems[i]? = some y∧Q q.1 y.1:=fun i hi=>by
    have h1:=hx i hi;rw[List.getElem?_eq_getElem hi] at h1;obtain⟨cs',h2,h3⟩:=Option.bind_eq_some_iff.1 h1;obtain⟨el,h4,h5⟩:=hel n (by omega) _ _ h3;exact⟨(el,cs'),h2,h4,_,List.getElem?_eq_getElem hi,h5⟩
   obtain⟨q,hq⟩:=Go.Deep.choose_lt each
   have hl1:((List.range elems.length).map fun i=>(q i).1).length=elems.length:=by simp
   have hin : ∀ (i:Nat) (el:List CV),((List.range elems.length).map fun i=>(q i).1)[i]? = some el→i<elems.length∧el=(q i).1:=fun i el hi=>by
    by_cases h:i<elems.length
    · rw[List.getElem?_map,List.getElem?_range h] at hi;simp only[Option.map_some,Option.some.injEq] at hi;exact⟨h,hi.symm⟩
    · rw[List.getElem?_eq_none (by simp; omega)] at hi;cases hi
   have hcl : ∀ i,i<elems.length→(q i).1.length=P.cellsOf e∧(q i).2.length=P.cellsOf e:=fun i hi=>by
    obtain⟨h1,h2,_⟩:=hq i hi;obtain⟨_,h3,_⟩:=World.cells?_some h1;exact⟨by rw[CVRs.len h2,h3],h3⟩
   have spot_of : ∀ k cs',k=0→W.cells? 0 (a.add k) (P.cellsOf e)=some cs'→a.spot=none:=fun k cs' hk h1=>by
    subst hk;obtain⟨_,h3,h4⟩:=World.cells?_some h1;have h5:=h4 0 hpos;rw[List.getElem?_eq_getElem (by omega)] at h5
    have:=World.cell?_spot h5
    simpa[Addr.add] using this
   have hspot:a.spot=none:=by
    by_cases h0:elems.length=0
    · obtain⟨h1,h2⟩:=hsp rfl;have h3:=h2 0 (by omega);rw[List.getElem?_eq_getElem (by omega)] at h3;obtain⟨cs',h4,_⟩:=Option.bind_eq_some_iff.1 h3;exact spot_of _ _ (by rw[h0]; simp) h4
    · exact spot_of _ _ (by simp) (hq 0 (by omega)).1
   refine⟨(List.range elems.length).map fun i=>(q i).1,elems.map (·.1),?_,by rw[hl1]; omega,by simp,fun i el d hi hd=>?_,bulk⟩
   · obtain⟨b,o,spot⟩:=a;have hspot:spot=none:=hspot;subst hspot
     have hc:=CVR.vs (w:=W) (X:=fun _=>False) ((List.range elems.length).map fun i=>(q i).1) b o (P.cellsOf e) cap (fun i f=>((q i).2[f]?).getD default)
      (fun el hel=>by
       simp only[List.mem_map,List.mem_range] at hel;obtain⟨i,hi,rfl⟩:=hel;exact (hcl i hi).1)
      (by rw[hl1]; exact hl)
      (fun i el hi f cv hf=>by
       obtain⟨hj,rfl⟩:=hin i el hi
       have hf2:f<P.cellsOf e:=by
        rw[←(hcl i hj).1];exact (List.getElem?_eq_some_iff.1 hf).1
       obtain⟨h1,h2,_⟩:=hq i hj;obtain⟨_,h3,h4⟩:=World.cells?_some h1;have h5:=h4 f hf2;rw[Go.WideShapes.add_plain,Go.WideShapes.add_plain,List.getElem?_eq_getElem (by omega)] at h5;refine⟨fun h=>h,?_⟩;rw[h5,List.getElem?_eq_getElem (by omega)]; rfl)
      (fun i el hi f cv hf=>by
       obtain⟨hj,rfl⟩:=hin i el hi;obtain⟨_,h2,_⟩:=hq i hj;obtain⟨r,hr,hv⟩:=h2.at f cv hf;rw[hr]; exact hv)
     rwa [hl1] at hc
   · obtain⟨hj,rfl⟩:=hin i el hi;obtain⟨_,_,y,hy,hQ⟩:=hq i hj;rw[List.getElem?_map,hy] at hd;simp only[Option.map_some,Option.some.injEq] at hd;subst hd;exact hQ
end
end
section
open Go.RowKit Go.IntWalk
def optT (o:Option (List UInt8)):List UInt8:=o.getD []
abbrev oD (o:Option (List UInt8)):DV:=.tup [sD (optT o),bD o.isSome]
theorem aBS (l:List UInt8) (i:Nat) (h:i<l.length):l.drop i=l.getD i 0::l.drop (i+1):=by
 rw[List.drop_eq_getElem_cons h]
 congr 1
 simp[List.getD_eq_getElem?_getD,h]
def aBM (l:List UInt8):Option (List UInt8):=if 2≤l.length∧l.getD 0 0=39∧l.getD (l.length - 1) 0=39 then some ((l.take (l.length - 1)).drop 1) else none
theorem aNg (l:List UInt8) (hs:Sm l):FnC Tryz.prog 93 [sD l] (oD (aBM l)):=by
 unfold Sm at hs;refine w93 (bs l) ?_;simp only[aAg,aAG,aAT,aAu];refine⟨fun h=>by omega,fun h=>?_,fun h=>?_,fun h=>?_⟩
 · have : ¬ (l.length:Int)<2:=fun e=>h (.inl e);rw[i64_in _ (by omega)]; omega
 · have:aBM l=none:=by
    unfold aBM;rw[if_neg];rintro⟨h1,h2,h3⟩;rcases h with (h | h) | h
    · omega
    · apply h;rw[show (1:Int).toNat=0+1 by rfl,show (0:Int).toNat=0 by rfl,aLg l 0 (by omega),h2]
    · apply h;rw[i64_in _ (by omega),Int.toNat_natCast,List.take_length,show ((l.length:Int) - 1).toNat=l.length - 1 by omega,aBS l _ (by omega),h3,List.drop_of_length_le (by omega)]
   rw[this];rfl
 · have h1 : ¬ (l.length:Int)<2:=fun e=>h (.inl (.inl e));have h2:=Classical.byContradiction fun e=>h (.inl (.inr e));have h3:=Classical.byContradiction fun e=>h (.inr e);rw[show (1:Int).toNat=0+1 by rfl,show (0:Int).toNat=0 by rfl,aLg l 0 (by omega)] at h2;rw[i64_in _ (by omega),Int.toNat_natCast,List.take_length,show ((l.length:Int) - 1).toNat=l.length - 1 by omega,aBS l _ (by omega)] at h3;simp only[List.cons.injEq] at h2 h3
   have:aBM l=some ((l.take (l.length - 1)).drop 1):=by
    unfold aBM;rw[if_pos ⟨by omega,h2.1,h3.1⟩]
   rw[this,i64_in _ (by omega),show ((l.length:Int) - 1).toNat=l.length - 1 by omega];exact⟨by omega,rfl⟩
def aAV:List UInt8→Option (List UInt8)
 | []=>some []
 | [c]=>if c=39 then none else some [c]
 | c::d::r=>if c=39 then (if d=39 then (aAV r).map (39 :: ·) else none) else (aAV (d::r)).map (c :: ·)
theorem aJR (c:UInt8) (r:List UInt8) (h:c≠39):aAV (c::r)=(aAV r).map (c :: ·):=by
 cases r with
 | nil=>simp[aAV,h]
 | cons d r=>rw[aAV,if_neg h]
def SinAt (l:List UInt8) (i:Nat) (out:List UInt8):Prop:=aAV l=(aAV (l.drop i)).map (out ++ ·)
theorem SinAt.start (l:List UInt8):SinAt l 0 []:=by simp[SinAt]
theorem SinAt.other {l:List UInt8} {i:Nat} {out:List UInt8} (h:SinAt l i out) (hi:i<l.length) (hc:l.getD i 0≠39):SinAt l (i+1) (out++[l.getD i 0]):=by
 unfold SinAt at h ⊢;rw[h,aBS l i hi,aJR _ _ hc];cases aAV (l.drop (i+1)) <;> simp
theorem SinAt.twice {l:List UInt8} {i:Nat} {out:List UInt8} (h:SinAt l i out) (hi:i+1<l.length) (hc:l.getD i 0=39) (hd:l.getD (i+1) 0=39):SinAt l (i+2) (out++[39]):=by
 unfold SinAt at h ⊢;rw[h,aBS l i (by omega),aBS l (i+1) hi,aAV,if_pos hc,if_pos hd];cases aAV (l.drop (i+1+1)) <;> simp
theorem SinAt.bad {l:List UInt8} {i:Nat} {out:List UInt8} (h:SinAt l i out) (hi:i<l.length) (hc:l.getD i 0=39) (hd:i+1=l.length∨l.getD (i+1) 0≠39):aAV l=none:=by
 unfold SinAt at h;rw[h,aBS l i (by omega)];by_cases he:i+1=l.length
 · rw[List.drop_of_length_le (by omega)];rw[hc];simp[aAV]
 · rw[aBS l (i+1) (by omega),aAV,if_pos hc,if_neg (hd.resolve_left he)];rfl
theorem SinAt.done {l:List UInt8} {i:Nat} {out:List UInt8} (h:SinAt l i out) (hi:l.length≤i):aAV l=some out:=by
 unfold SinAt at h;rw[h,List.drop_of_length_le hi];simp[aAV]
theorem c39 (c:UInt8):((c.toNat:Int)=(aAk (bs [39]) 0))↔c=39:=by
 rw[aAr]
 constructor
 · intro h; exact aHX (b:=39) h
 · intro h; rw[h]; rfl
theorem aJb (c:UInt8):([[CV.v (.int .u8 (c.toNat:Int))]]:List (List CV))=bc [c]:=rfl
theorem aR0 (l:List UInt8) (hs:Sm l):FnC Tryz.prog 94 [sD l] (oD (aAV l)):=by
 unfold Sm at hs;refine w94 (bs l) ?_;simp only[aAg,aAG];refine⟨by omega,by omega,fun x1 hx1=>?_⟩
 have e0:x1=bc []:=by rw[hx1]; rfl
 subst e0;refine⟨fun rows i k=>0≤i∧i≤l.length∧(∃ out,rows=bc out∧out.length≤i.toNat∧SinAt l i.toNat out)∧k=l.length - i.toNat,⟨_,by omega,by omega,⟨[],rfl,by simp,SinAt.start l⟩,rfl⟩,?_⟩;rintro k rows i ⟨h0,h1,⟨out,rfl,ho,hS⟩,rfl⟩;refine⟨fun hi=>⟨by omega,by omega,fun hc=>?_,fun hc=>?_⟩,fun hi=>?_⟩
 · rw[aAr,c39] at hc;have e1:IntKind.wrap .i64 (i+1)=i+1:=i64_in _ (by omega);rw[e1,aAr,aQZ i h0,c39];refine⟨fun h=>by omega,fun h=>by omega,fun hb=>?_,fun hb=>?_⟩
   · rw[hS.bad (by omega) hc (hb.imp (fun h=>by omega) id)];rfl
   · have hb1 : ¬ i+1=l.length:=fun e=>hb (.inl e);have hb2:=Classical.byContradiction fun e=>hb (.inr e);refine⟨by omega,fun x4 hx4=>?_⟩;rw[aJb] at hx4;subst hx4;rw[aBu,aBu];refine⟨by simp; omega,fun x5 hx5=>?_⟩;rw[aER] at hx5;subst hx5;rw[i64_in _ (by omega)]
     have e2:(i+1+1).toNat=i.toNat+2:=by omega
     refine⟨_,?_,by omega,by omega,⟨_,rfl,by simp; omega,?_⟩,rfl⟩
     · omega
     · rw[e2,hb2];exact hS.twice (by omega) hc hb2
 · rw[aAr,c39] at hc;refine⟨by omega,fun x4 hx4=>?_⟩;rw[aAr,aJb] at hx4;subst hx4;rw[aBu,aBu];refine⟨by simp; omega,fun x5 hx5=>?_⟩;rw[aER] at hx5;subst hx5;rw[i64_in _ (by omega)];refine⟨_,?_,by omega,by omega,⟨_,rfl,by simp; omega,?_⟩,rfl⟩
   · omega
   · rw[aQZ i h0];exact hS.other (by omega) hc
 · rw[hS.done (by omega),aTz];exact⟨aEq _,rfl⟩
def nibL (c:UInt8):Option Nat:=if 48≤c.toNat∧c.toNat≤57 then some (c.toNat - 48) else if 97≤c.toNat∧c.toNat≤102 then some (c.toNat - 87) else if 65≤c.toNat∧c.toNat≤70 then some (c.toNat - 55) else none
def aBL:List UInt8→Option (List UInt8)
 | []=>some []
 | [_]=>none
 | a::b::r=>match nibL a,nibL b with
  | some x,some y=>(aBL r).map (UInt8.ofNat (16*x+y) :: ·)
  | _,_=>none
theorem aON {c:UInt8} {n:Nat} (h:nibL c=some n):n<16:=by
 unfold nibL at h
 repeat' split at h
 all_goals simp at h
 all_goals omega
theorem aKe : ∀ (k:Nat) (l:List UInt8),l.length≤k→l.length % 2=1→aBL l=none
 | 0,l,h,h1=>by omega
 | k+1,[],h,h1=>by simp at h1
 | k+1,[_],h,h1=>rfl
 | k+1,a::b::r,h,h1=>by
  unfold aBL
  have:=aKe k r (by simp at h; omega) (by simp at h1; omega)
  rw[this];split <;> simp
def HexAt (l:List UInt8) (i:Nat) (out:List UInt8):Prop:=aBL l=(aBL (l.drop i)).map (out ++ ·)
theorem HexAt.start (l:List UInt8):HexAt l 0 []:=by simp[HexAt]
theorem HexAt.step {l:List UInt8} {i:Nat} {out:List UInt8} (h:HexAt l i out) (hi:i+1<l.length) {x y:Nat} (hx:nibL (l.getD i 0)=some x) (hy:nibL (l.getD (i+1) 0)=some y):HexAt l (i+2) (out++[UInt8.ofNat (16*x+y)]):=by
 unfold HexAt at h ⊢;rw[h,aBS l i (by omega),aBS l (i+1) hi,aBL,hx,hy];cases aBL (l.drop (i+1+1)) <;> simp
theorem HexAt.bad {l:List UInt8} {i:Nat} {out:List UInt8} (h:HexAt l i out) (hi:i+1<l.length) (hb:nibL (l.getD i 0)=none∨nibL (l.getD (i+1) 0)=none):aBL l=none:=by
 unfold HexAt at h;rw[h,aBS l i (by omega),aBS l (i+1) hi,aBL];rcases hb with hb | hb
 · rw[hb]; rfl
 · rw[hb]; cases nibL (l.getD i 0) <;> rfl
theorem HexAt.done {l:List UInt8} {i:Nat} {out:List UInt8} (h:HexAt l i out) (hi:l.length≤i):aBL l=some out:=by
 unfold HexAt at h;rw[h,List.drop_of_length_le hi];simp[aBL]
theorem aNl (c:UInt8):FnC Tryz.prog 132 [.c (.v (.int .u8 (c.toNat:Int)))] (.tup [.c (.v (.int .u8 (((nibL c).getD 0:Nat):Int))),bD (nibL c).isSome]):=by
 refine w132 (c.toNat:Int) ?_;unfold nibL;refine⟨fun h=>?_,fun h=>⟨fun h1=>?_,fun h1=>⟨fun h2=>?_,fun h2=>?_⟩⟩⟩
 · rw[if_pos (by omega),u8_in _ (by omega)];simp only[Option.getD_some,Option.isSome_some]
   congr 5
   omega
 · have e:=u8_in ((c.toNat:Int) - 97) (by omega);rw[if_neg (by omega),if_pos (by omega),e,u8_in _ (by omega)];simp only[Option.getD_some,Option.isSome_some]
   congr 5
   omega
 · have e:=u8_in ((c.toNat:Int) - 65) (by omega);rw[if_neg (by omega),if_neg (by omega),if_pos (by omega),e,u8_in _ (by omega)];simp only[Option.getD_some,Option.isSome_some]
   congr 5
   omega
 · rw[if_neg (by omega),if_neg (by omega),if_neg (by omega)];rfl
theorem or16 (x y:Nat) (hx:x<16) (hy:y<16):IntKind.wrap .u8 (((BitVec.ofInt (IntKind.bits .u8) (IntKind.wrap .u8 ((x:Int)*2 ^ 4)) ||| BitVec.ofInt (IntKind.bits .u8) (y:Int)).toNat:Nat):Int)=((UInt8.ofNat (16*x+y)).toNat:Int):=by
 have h : ∀ n m:Fin 16,IntKind.wrap .u8 (((BitVec.ofInt (IntKind.bits .u8) (IntKind.wrap .u8 ((n.val:Int)*2 ^ 4)) ||| BitVec.ofInt (IntKind.bits .u8) (m.val:Int)).toNat:Nat):Int)=((UInt8.ofNat (16*n.val+m.val)).toNat:Int):=by decide +kernel
 exact h ⟨x,hx⟩ ⟨y,hy⟩
theorem aOL (l:List UInt8) (hs:Sm l):FnC Tryz.prog 96 [sD l] (oD (aBL l)):=by
 unfold Sm at hs;refine w96 (bs l) ?_;simp only[aAg,aAG,aAr]
 have em:Int.tmod (l.length:Int) 2=((l.length % 2:Nat):Int):=by rw[Int.tmod_eq_emod_of_nonneg (by omega)]; omega
 rw[em];refine⟨by omega,fun h=>?_,fun h=>⟨by omega,?_⟩⟩
 · rw[aKe _ l (Nat.le_refl _) (by omega)];rfl
 have hev:l.length % 2=0:=by omega
 rw[i64_quo _ _ (by omega)];refine⟨by omega,by omega,fun x1 hx1=>?_⟩
 have e0:x1=bc []:=by rw[hx1]; rfl
 subst e0;refine⟨fun rows i k=>0≤i∧i≤l.length∧i.toNat % 2=0∧(∃ out,rows=bc out∧out.length≤i.toNat∧HexAt l i.toNat out)∧k=l.length - i.toNat,⟨_,by omega,by omega,by simp,⟨[],rfl,by simp,HexAt.start l⟩,rfl⟩,?_⟩;rintro k rows i ⟨h0,h1,h2,⟨out,rfl,ho,hS⟩,rfl⟩;refine⟨fun hi=>⟨by omega,_,_,aNl _,?_⟩,fun hi=>?_⟩
 · have e1:IntKind.wrap .i64 (i+1)=i+1:=i64_in _ (by omega);rw[e1,aQZ i h0];refine⟨by omega,_,_,aNl _,fun hb=>?_,fun hb=>?_⟩
   · have:nibL (l.getD i.toNat 0)=none∨nibL (l.getD (i.toNat+1) 0)=none:=by
      rcases hb with hb | hb
      · left; cases hh:nibL (l.getD i.toNat 0)
        · rfl
        · rw[hh] at hb; simp at hb
      · right; cases hh:nibL (l.getD (i.toNat+1) 0)
        · rfl
        · rw[hh] at hb; simp at hb
     rw[hS.bad (by omega) this];rfl
   · obtain⟨x,hx⟩ : ∃ x,nibL (l.getD i.toNat 0)=some x:=by
      cases hh:nibL (l.getD i.toNat 0)
      · exact absurd (.inl (by rw[hh]; simp)) hb
      · exact⟨_,rfl⟩
     obtain⟨y,hy⟩ : ∃ y,nibL (l.getD (i.toNat+1) 0)=some y:=by
      cases hh:nibL (l.getD (i.toNat+1) 0)
      · exact absurd (.inr (by rw[hh]; simp)) hb
      · exact⟨_,rfl⟩
     intro x8 hx8;rw[hx,hy] at hx8;simp only[Option.getD_some] at hx8;rw[or16 x y (aON hx) (aON hy),aJb] at hx8;subst hx8;rw[aBu,aBu];refine⟨by simp; omega,fun x9 hx9=>?_⟩;rw[aER] at hx9;subst hx9
     have e2:(i+2).toNat=i.toNat+2:=by omega
     rw[i64_in _ (by omega)];refine⟨_,?_,by omega,by omega,by omega,⟨_,rfl,by simp; omega,?_⟩,rfl⟩
     · omega
     · rw[e2];exact hS.step (by omega) hx hy
 · rw[hS.done (by omega),aTz];exact⟨aEq _,rfl⟩
def aHP (kind:Int) (o:Option (List UInt8)):V3×Int:=match o with
 | none=>(nul,8)
 | some s=>if 4096<s.length then (nul,3) else ((kind,0,s),0)
theorem aQa (kind:Int) (o:Option (List UInt8)) (s:List UInt8) (b:Bool) (h1:b=o.isSome) (h2 : ∀ t,o=some t→s=t):FnC Tryz.prog 95 [iD kind,sD s,bD b] (.tup [vD (aHP kind o).1,iD (aHP kind o).2]):=by
 refine w95 kind (bs s) b ?_;subst h1
 cases o with
 | none=>exact⟨fun _=>rfl,fun h=>absurd (by simp) h⟩
 | some t =>
  rw[h2 t rfl,aAg];refine⟨fun h=>absurd h (by simp),fun _=>⟨fun h=>?_,fun h=>?_⟩⟩
  · simp only[aHP]; rw[if_pos (by omega)]; rfl
  · simp only[aHP]; rw[if_neg (by omega)]
theorem aEf {l m:List UInt8} (hs:Sm l) (h:aBM l=some m):Sm m:=by
 unfold aBM at h;split at h
 · simp only[Option.some.injEq] at h;subst h;unfold Sm at *
   simp
   omega
 · simp at h
def aBr (l:List UInt8):V3×Int :=
 if aAn l=[110,117,108,108] then (nul,0)
 else match aBM l with
  | some m=>aHP 2 (aAV m)
  | none=>if l≠[]∧low (l.getD 0 0)=120 then aHP 3 ((aBM (l.drop 1)).bind aBL)
   else if (aB5 l).2≠0 then (nul,(aB5 l).2) else ((1,(aB5 l).1,[]),0)
theorem aKr (c:UInt8):aAn [c]=[low c]:=rfl
theorem aOm (l:List UInt8) (hs:Sm l):FnC Tryz.prog 68 [sD l] (.tup [vD (aBr l).1,iD (aBr l).2]):=by
 refine w68 (bs l) ?_;refine⟨_,aAL l hs.sz,?_⟩;simp only[aAG,aAu,aAg,aAT];refine⟨fun h=>by simp[aBr,h],fun h=>?_⟩;refine⟨_,_,aNg l hs,?_⟩
 cases hi:aBM l with
 | some m =>
  have hm:=aEf hs hi
  have hu:aBr l=aHP 2 (aAV m):=by simp[aBr,h,hi]
  rw[hu];refine⟨fun _=>⟨_,_,aR0 m hm,_,_,_,_,aQa 2 (aAV m) _ _ rfl (fun t ht=>by rw[ht]; rfl),rfl⟩,fun h=>absurd rfl h⟩
 | none =>
  have hu:aBr l=if l≠[]∧low (l.getD 0 0)=120 then aHP 3 ((aBM (l.drop 1)).bind aBL) else if (aB5 l).2≠0 then (nul,(aB5 l).2) else ((1,(aB5 l).1,[]),0):=by simp[aBr,h,hi]
  rw[hu];refine⟨fun h=>absurd h (by simp),fun _=>⟨fun hne=>?_,?_⟩⟩
  · have:=List.length_pos_iff.2 hne; omega
  have hcut:l≠[]→(l.take (1:Int).toNat).drop (0:Int).toNat=[l.getD 0 0]:=fun hne=>aLg l 0 (List.length_pos_iff.2 hne);refine⟨bs (aAn ((l.take (1:Int).toNat).drop (0:Int).toNat)),fun hne=>aAL _ (by rw[hcut hne]; unfold Sz; simp),fun hc=>?_,fun hc=>?_⟩
  · obtain⟨hne,hc⟩:=hc;rw[hcut hne,aKr,aAu] at hc
    have hlow:low (l.getD 0 0)=120:=by simpa using hc
    rw[if_pos ⟨hne,hlow⟩];have hpos:=List.length_pos_iff.2 hne
    have e:(l.take ((l.length:Nat):Int).toNat).drop (1:Int).toNat=l.drop 1:=by
     rw[Int.toNat_natCast,List.take_length]; rfl
    rw[e]
    have hs1:Sm (l.drop 1):=by unfold Sm at *; simp; omega
    refine⟨by omega,_,_,aNg _ hs1,?_⟩
    cases hj:aBM (l.drop 1) with
    | none=>exact⟨_,_,aOL [] (by unfold Sm; simp),_,_,_,_,aQa 3 none [] _ rfl (fun t ht=>by simp at ht),rfl⟩
    | some m =>
     exact⟨_,_,aOL m (aEf hs1 hj),_,_,_,_,aQa 3 (aBL m) _ _ (by simp) (fun t ht=>by rw[ht]; rfl),rfl⟩
  · have hn : ¬ (l≠[]∧low (l.getD 0 0)=120):=fun ⟨hne,hl⟩=>hc ⟨hne,by rw[hcut hne,aKr,hl]⟩;rw[if_neg hn];refine⟨_,_,aCs l hs.sz,fun h=>?_,fun h=>?_⟩
    · rw[if_pos h]
    · rw[if_neg h]
end
section
open Go.RowKit Go.IntWalk
structure Tok where
 kd:Int
 tx:List UInt8
 vl:V3
 pl:Int
 deriving DecidableEq,Inhabited
def Tok.cells (t:Tok):List CV:=[.v (.int .i64 t.kd),.v (.string (bs t.tx)),.v (.int .i64 t.vl.1),.v (.int .i64 t.vl.2.1),.v (.string (bs t.vl.2.2)),.v (.int .i64 t.pl)]
def tc (L:List Tok):List (List CV):=L.map Tok.cells
theorem aFT (L:List Tok):(tc L).length=L.length:=by simp[tc]
def letB (c:UInt8):Bool:=aU2 c||c==95
theorem aUO (c d:UInt8):(c==d)=decide (c.toNat=d.toNat):=by
 by_cases h:c=d
 · subst h; simp
 · have : ¬ c.toNat=d.toNat:=fun e=>h (UInt8.toNat_inj.1 e);simp[h,this]
theorem aG5 (c:UInt8):FnC Tryz.prog 38 [.c (.v (.int .u8 (c.toNat:Int)))] (bD (letB c)):=by
 refine w38 (c.toNat:Int) ?_
 have e:(((c.toNat:Int))==95)=decide (c.toNat=95):=by
  by_cases h:c.toNat=95
  · simp[h]
  · have : ¬ (c.toNat:Int)=95:=by omega
    simp[h,this]
 rw[e];unfold letB aU2;rw[aUO c 95];have e95:(95:UInt8).toNat=95:=rfl;rw[e95]
 rw[show decide ((97:Int)≤(c.toNat:Int))=decide (97≤c.toNat) from decide_eq_decide.2 (by omega),show decide ((c.toNat:Int)≤122)=decide (c.toNat≤122) from decide_eq_decide.2 (by omega),
  show decide ((65:Int)≤(c.toNat:Int))=decide (65≤c.toNat) from decide_eq_decide.2 (by omega),show decide ((c.toNat:Int)≤90)=decide (c.toNat≤90) from decide_eq_decide.2 (by omega)]
 by_cases h1:97≤c.toNat <;> by_cases h2:c.toNat≤122 <;> by_cases h3:65≤c.toNat <;> by_cases h4:c.toNat≤90 <;> simp[h1,h2,h3,h4]
theorem aJa (c:UInt8):FnC Tryz.prog 43 [.c (.v (.int .u8 (c.toNat:Int)))] (bD (aAI c)):=by
 refine w43 (c.toNat:Int) ?_;unfold aAI;rw[show decide ((48:Int)≤(c.toNat:Int))=decide (48≤c.toNat) from decide_eq_decide.2 (by omega),show decide ((c.toNat:Int)≤57)=decide (c.toNat≤57) from decide_eq_decide.2 (by omega)];by_cases h1:48≤c.toNat <;> by_cases h2:c.toNat≤57 <;> simp[h1,h2]
theorem aTU (c:UInt8):FnC Tryz.prog 42 [.c (.v (.int .u8 (c.toNat:Int)))] (bD (letB c||aAI c)):=by
 refine w42 (c.toNat:Int) ⟨_,aG5 c,aAI c,fun _=>aJa c,?_⟩;cases letB c <;> rfl
theorem aR6 (c:UInt8):FnC Tryz.prog 67 [.c (.v (.int .u8 (c.toNat:Int)))] (bD (!(c==39))):=by
 refine w67 (c.toNat:Int) ?_
 have e:(((c.toNat:Int))==39)=decide (c.toNat=39):=by
  by_cases h:c.toNat=39
  · simp[h]
  · have : ¬ (c.toNat:Int)=39:=by omega
    simp[h,this]
 rw[e,aUO c 39];rfl
def aBi (p:UInt8→Bool) (s:List UInt8):Nat→Nat→Nat
 | 0,i=>i
 | n+1,i=>if i<s.length∧p (s.getD i 0)=true then aBi p s n (i+1) else i
theorem aG9 (p:UInt8→Bool) (s:List UInt8) : ∀ (n i:Nat),i≤aBi p s n i
 | 0,i=>Nat.le_refl _
 | n+1,i=>by
  unfold aBi;split
  · have:=aG9 p s n (i+1); omega
  · exact Nat.le_refl _
theorem aKH (p:UInt8→Bool) (s:List UInt8) : ∀ (n i:Nat),i≤s.length→aBi p s n i≤s.length
 | 0,i,h=>h
 | n+1,i,h=>by
  unfold aBi;split
  · exact aKH p s n (i+1) (by omega)
  · exact h
theorem aO3 {p:UInt8→Bool} {s:List UInt8} {n i:Nat} (h:i<s.length) (hp:p (s.getD i 0)=true):i+1≤aBi p s (n+1) i:=by
 unfold aBi;rw[if_pos ⟨h,hp⟩];exact aG9 p s n (i+1)
def aAR (p:UInt8→Bool) (s:List UInt8) (i:Nat):Nat:=aBi p s (s.length - i) i
theorem aKc (s:List UInt8) (hs:Sm s) (i:Nat) (hi:i≤s.length):FnC Tryz.prog 41 [sD s,iD i,.c (.v (.func (.func 42) #[] #[]))] (iD (aAR (fun c=>letB c||aAI c) s i:Nat)):=by
 unfold Sm at hs;refine aUT (bs s) (i:Int) ?_;simp only[aAg,aAG,aAr];refine⟨fun x k=>0≤x∧x≤s.length∧s.length - x.toNat≤k∧aBi (fun c=>letB c||aAI c) s k x.toNat=aAR (fun c=>letB c||aAI c) s i,⟨s.length - i,by omega,by omega,by omega,rfl⟩,?_⟩;rintro k x ⟨h0,h1,h2,h3⟩;refine⟨fun h=>by omega,(fun c=>letB c||aAI c) (s.getD x.toNat 0),fun h=>aTU _,fun h=>?_,fun h=>?_⟩
 · cases k with
   | zero=>omega
   | succ m =>
    rw[i64_in _ (by omega)];unfold aBi at h3;rw[if_pos ⟨by omega,h.2⟩] at h3;exact⟨m,by omega,by omega,by omega,by omega,by rw[show (x+1).toNat=x.toNat+1 by omega]; exact h3⟩
 · have:aBi (fun c=>letB c||aAI c) s k x.toNat=x.toNat:=by
    cases k with
    | zero=>rfl
    | succ m =>
     unfold aBi;rw[if_neg];rintro⟨g1,g2⟩;exact h ⟨by omega,g2⟩
   rw[this] at h3;rw[←h3]
   have e:((x.toNat:Nat):Int)=x:=by omega
   rw[e]
theorem aLD (s:List UInt8) (hs:Sm s) (i:Nat) (hi:i≤s.length):FnC Tryz.prog 41 [sD s,iD i,.c (.v (.func (.func 43) #[] #[]))] (iD (aAR aAI s i:Nat)):=by
 unfold Sm at hs;refine aUU (bs s) (i:Int) ?_;simp only[aAg,aAG,aAr];refine⟨fun x k=>0≤x∧x≤s.length∧s.length - x.toNat≤k∧aBi aAI s k x.toNat=aAR aAI s i,⟨s.length - i,by omega,by omega,by omega,rfl⟩,?_⟩;rintro k x ⟨h0,h1,h2,h3⟩;refine⟨fun h=>by omega,aAI (s.getD x.toNat 0),fun h=>aJa _,fun h=>?_,fun h=>?_⟩
 · cases k with
   | zero=>omega
   | succ m =>
    rw[i64_in _ (by omega)];unfold aBi at h3;rw[if_pos ⟨by omega,h.2⟩] at h3;exact⟨m,by omega,by omega,by omega,by omega,by rw[show (x+1).toNat=x.toNat+1 by omega]; exact h3⟩
 · have:aBi aAI s k x.toNat=x.toNat:=by
    cases k with
    | zero=>rfl
    | succ m =>
     unfold aBi;rw[if_neg];rintro⟨g1,g2⟩;exact h ⟨by omega,g2⟩
   rw[this] at h3;rw[←h3]
   have e:((x.toNat:Nat):Int)=x:=by omega
   rw[e]
theorem aI2 (s:List UInt8) (hs:Sm s) (i:Nat) (hi:i≤s.length):FnC Tryz.prog 41 [sD s,iD i,.c (.v (.func (.func 67) #[] #[]))] (iD (aAR (fun c=>!(c==39)) s i:Nat)):=by
 unfold Sm at hs;refine aUS (bs s) (i:Int) ?_;simp only[aAg,aAG,aAr];refine⟨fun x k=>0≤x∧x≤s.length∧s.length - x.toNat≤k∧aBi (fun c=>!(c==39)) s k x.toNat=aAR (fun c=>!(c==39)) s i,⟨s.length - i,by omega,by omega,by omega,rfl⟩,?_⟩;rintro k x ⟨h0,h1,h2,h3⟩;refine⟨fun h=>by omega,(fun c=>!(c==39)) (s.getD x.toNat 0),fun h=>aR6 _,fun h=>?_,fun h=>?_⟩
 · cases k with
   | zero=>omega
   | succ m =>
    rw[i64_in _ (by omega)];unfold aBi at h3;rw[if_pos ⟨by omega,h.2⟩] at h3;exact⟨m,by omega,by omega,by omega,by omega,by rw[show (x+1).toNat=x.toNat+1 by omega]; exact h3⟩
 · have:aBi (fun c=>!(c==39)) s k x.toNat=x.toNat:=by
    cases k with
    | zero=>rfl
    | succ m =>
     unfold aBi;rw[if_neg];rintro⟨g1,g2⟩;exact h ⟨by omega,g2⟩
   rw[this] at h3;rw[←h3]
   have e:((x.toNat:Nat):Int)=x:=by omega
   rw[e]
def isBk (c:UInt8):Bool:=c==32||c==9||c==10||c==13
def aBN (s:List UInt8):Nat→Nat→Nat
 | 0,i=>i
 | n+1,i=>if i<s.length then (if isBk (s.getD i 0)=true then aBN s n (i+1) else if s.getD i 0=45∧i+1<s.length∧s.getD (i+1) 0=45 then aBN s n (aAR (fun c=>!(c==10)) s i) else i) else i
def aCU (s:List UInt8) (i:Nat):Nat:=aBN s (s.length - i) i
theorem aGW (p:UInt8→Bool) (s:List UInt8) (i:Nat):i≤aAR p s i:=aG9 p s _ i
theorem aC7 (p:UInt8→Bool) (s:List UInt8) (i:Nat) (h:i≤s.length):aAR p s i≤s.length:=aKH p s _ i h
theorem aD2 {p:UInt8→Bool} {s:List UInt8} {i:Nat} (h:i<s.length) (hp:p (s.getD i 0)=true):i+1≤aAR p s i:=by
 unfold aAR;obtain⟨m,hm⟩ : ∃ m,s.length - i=m+1:=⟨s.length - i - 1,by omega⟩;rw[hm];exact aO3 h hp
theorem aFt (s:List UInt8) : ∀ (n i:Nat),i≤aBN s n i
 | 0,i=>Nat.le_refl _
 | n+1,i=>by
  unfold aBN;split
  · split
    · have:=aFt s n (i+1); omega
    · split
      · have:=aFt s n (aAR (fun c=>!(c==10)) s i)
        have:=aGW (fun c=>!(c==10)) s i
        omega
      · exact Nat.le_refl _
  · exact Nat.le_refl _
theorem aFw (s:List UInt8) : ∀ (n i:Nat),i≤s.length→aBN s n i≤s.length
 | 0,i,h=>h
 | n+1,i,h=>by
  unfold aBN;split
  · split
    · exact aFw s n (i+1) (by omega)
    · split
      · exact aFw s n _ (aC7 _ s i h)
      · exact h
  · exact h
theorem aN7 (s:List UInt8) (i:Nat):i≤aCU s i:=aFt s _ i
theorem aH8 (s:List UInt8) (i:Nat) (h:i≤s.length):aCU s i≤s.length:=aFw s _ i h
theorem aKa (c d:UInt8):((c.toNat:Int)=d.toNat)↔c=d:=by
 constructor
 · intro h;exact UInt8.toNat_inj.1 (by omega)
 · rintro rfl; rfl
theorem aI8 (c:UInt8):isBk c=true↔((((c.toNat:Int)=32∨(c.toNat:Int)=9)∨(c.toNat:Int)=10)∨(c.toNat:Int)=13):=by
 have h1:=aKa c 32;have h2:=aKa c 9;have h3:=aKa c 10;have h4:=aKa c 13;have e1:((32:UInt8).toNat:Int)=32:=rfl;have e2:((9:UInt8).toNat:Int)=9:=rfl;have e3:((10:UInt8).toNat:Int)=10:=rfl;have e4:((13:UInt8).toNat:Int)=13:=rfl;rw[e1] at h1;rw[e2] at h2;rw[e3] at h3;rw[e4] at h4;rw[h1,h2,h3,h4];simp[isBk]
theorem u8_n (c:UInt8) (n:Nat) (h:n<256):((c.toNat:Int)=n)↔c=UInt8.ofNat n:=by
 rw[←aKa]
 have:(UInt8.ofNat n).toNat=n:=by simp; omega
 rw[this]
theorem aMU (s:List UInt8) (hs:Sm s) (i:Nat) (hi:i≤s.length):FnC Tryz.prog 27 [sD s,iD i] (iD (aCU s i:Nat)):=by
 unfold Sm at hs;refine w27 (bs s) (i:Int) ?_;simp only[aAg,aAG,aAr];refine⟨fun x k=>0≤x∧x≤s.length∧s.length - x.toNat≤k∧aBN s k x.toNat=aCU s i,⟨s.length - i,by omega,by omega,by omega,rfl⟩,?_⟩;rintro k x ⟨h0,h1,h2,h3⟩;have c45 : ∀ c:UInt8,((c.toNat:Int)=45)↔c=45:=fun c=>u8_n c 45 (by omega);refine⟨fun h=>⟨by omega,fun _=>by omega,fun _=>by omega,fun _=>by omega,fun hb=>?_,fun hb=>⟨by omega,fun hq=>?_,fun hc=>?_,fun hc=>?_⟩⟩,fun h=>?_⟩
 · cases k with
   | zero=>omega
   | succ m =>
    rw[i64_in _ (by omega)];unfold aBN at h3;rw[if_pos (by omega),if_pos ((aI8 _).2 hb)] at h3;exact⟨m,by omega,by omega,by omega,by omega,by rw[show (x+1).toNat=x.toNat+1 by omega]; exact h3⟩
 · rw[i64_in _ (by omega)] at hq ⊢;omega
 · cases k with
   | zero=>omega
   | succ m =>
    rw[i64_in _ (by omega)] at hc;obtain⟨⟨q1,q2⟩,q3⟩:=hc;rw[show (x+1).toNat=x.toNat+1 by omega] at q3;unfold aBN at h3;rw[if_pos (by omega),if_neg (fun e=>hb ((aI8 _).1 e)),if_pos ⟨(c45 _).1 q1,by omega,(c45 _).1 q3⟩] at h3;have hgo:x.toNat+1≤aAR (fun c=>!(c==10)) s x.toNat:=aD2 (by omega) (by rw[(c45 _).1 q1]; rfl);refine⟨fun y k1=>x≤y∧y≤s.length∧s.length - y.toNat≤k1∧aBi (fun c=>!(c==10)) s k1 y.toNat=aAR (fun c=>!(c==10)) s x.toNat,⟨s.length - x.toNat,by omega,by omega,by omega,rfl⟩,?_⟩;rintro k1 y ⟨g0,g1,g2,g3⟩;have c10 : ∀ c:UInt8,((c.toNat:Int)=10)↔c=10:=fun c=>u8_n c 10 (by omega);refine⟨fun _=>by omega,fun hy=>?_,fun hy=>?_⟩
    · cases k1 with
      | zero=>omega
      | succ m1 =>
       rw[i64_in _ (by omega)];unfold aBi at g3
       have hne:(!(s.getD y.toNat 0==10))=true:=by
        have : ¬ s.getD y.toNat 0=10:=fun e=>hy.2 ((c10 _).2 e);simpa using this
       rw[if_pos ⟨by omega,hne⟩] at g3;exact⟨m1,by omega,by omega,by omega,by omega,by rw[show (y+1).toNat=y.toNat+1 by omega]; exact g3⟩
    · have:aBi (fun c=>!(c==10)) s k1 y.toNat=y.toNat:=by
       cases k1 with
       | zero=>rfl
       | succ m1 =>
        unfold aBi;rw[if_neg];rintro⟨e1,e2⟩;refine hy ⟨by omega,fun e=>?_⟩;rw[(c10 _).1 e] at e2;cases e2
      rw[this] at g3;rw[←g3] at h3 hgo;exact⟨m,by omega,by omega,by omega,by omega,h3⟩
 · cases k with
   | zero =>
    omega
   | succ m =>
    rw[i64_in _ (by omega)] at hc;unfold aBN at h3;rw[if_pos (by omega),if_neg (fun e=>hb ((aI8 _).1 e)),if_neg] at h3
    · rw[←h3]
      have e:((x.toNat:Nat):Int)=x:=by omega
      rw[e]
    · rintro⟨e1,e2,e3⟩;refine hc ⟨⟨(c45 _).2 e1,by omega⟩,?_⟩;rw[show (x+1).toNat=x.toNat+1 by omega];exact (c45 _).2 e3
 · have:aBN s k x.toNat=x.toNat:=by
    cases k with
    | zero=>rfl
    | succ m =>
     unfold aBN;rw[if_neg (by omega)]
   rw[this] at h3;rw[←h3]
   have e:((x.toNat:Nat):Int)=x:=by omega
   rw[e]
end
section
open Go.RowKit Go.IntWalk
abbrev oN (o:Option Nat):DV:=.tup [iD ((o.getD 0:Nat)),bD o.isSome]
def aCp (s:List UInt8):Nat→Nat→Option Nat
 | 0,i=>none
 | n+1,i=>if i<s.length then (if s.getD i 0=39 then (if i+1=s.length∨¬ s.getD (i+1) 0=39 then some (i+1) else aCp s n (i+2)) else aCp s n (i+1)) else none
def aFG (s:List UInt8) (i:Nat):Option Nat:=aCp s (s.length - (i+1)) (i+1)
theorem aFo (s:List UInt8) : ∀ (n i e:Nat),aCp s n i=some e→i<e∧e≤s.length
 | 0,i,e,h=>by cases h
 | n+1,i,e,h=>by
  unfold aCp at h;split at h
  · split at h
    · split at h
      · injection h with h; omega
      · have:=aFo s n (i+2) e h; omega
    · have:=aFo s n (i+1) e h; omega
  · cases h
theorem aIt {s:List UInt8} {i e:Nat} (h:aFG s i=some e):i+1<e∧e≤s.length:=aFo s _ _ _ h
theorem q39 (c:UInt8):((c.toNat:Int)=39)↔c=39:=u8_n c 39 (by omega)
theorem aR5 (s:List UInt8) (hs:Sm s) (i:Nat) (hi:i<s.length):FnC Tryz.prog 45 [sD s,iD i] (oN (aFG s i)):=by
 unfold Sm at hs;refine w45 (bs s) (i:Int) ?_;simp only[aAg,aAG,aAr,q39];refine⟨fun x k=>0≤x∧x≤s.length+1∧s.length - x.toNat≤k∧aCp s k x.toNat=aFG s i,⟨s.length - (i+1),?_⟩,?_⟩
 · rw[i64_in _ (by omega)];exact⟨by omega,by omega,by omega,by rw[show ((i:Int)+1).toNat=i+1 by omega]; rfl⟩
 rintro k x ⟨h0,h1,h2,h3⟩;refine⟨fun h=>⟨by omega,fun hc=>?_,fun hc=>⟨fun hq=>?_,fun hq=>?_,fun hq=>?_⟩⟩,fun h=>?_⟩
 · cases k with
   | zero=>omega
   | succ m =>
    rw[i64_in _ (by omega)];unfold aCp at h3;rw[if_pos (by omega),if_neg hc] at h3;exact⟨m,by omega,by omega,by omega,by omega,by rw[show (x+1).toNat=x.toNat+1 by omega]; exact h3⟩
 · rw[i64_in _ (by omega)] at hq ⊢;omega
 · rw[i64_in _ (by omega)] at hq ⊢;rw[show (x+1).toNat=x.toNat+1 by omega] at hq
   cases k with
   | zero=>omega
   | succ m =>
    have hc:=Classical.byContradiction hc;unfold aCp at h3;rw[if_pos (by omega),if_pos hc,if_pos (hq.imp (fun e=>by omega) id)] at h3;rw[←h3];show DV.tup [iD (x+1),bD true]=DV.tup [iD ((x.toNat+1:Nat):Int),bD true];rw[show ((x.toNat+1:Nat):Int)=x+1 by omega]
 · rw[i64_in (x+1) (by omega)] at hq ⊢;rw[i64_in _ (by omega)];rw[show (x+1).toNat=x.toNat+1 by omega] at hq
   cases k with
   | zero=>omega
   | succ m =>
    have hc:=Classical.byContradiction hc;unfold aCp at h3;rw[if_pos (by omega),if_pos hc,if_neg (fun e=>hq (e.imp (fun e=>by omega) id))] at h3;exact⟨m,by omega,by omega,by omega,by omega,by rw[show (x+1+1).toNat=x.toNat+2 by omega]; exact h3⟩
 · have:aCp s k x.toNat=none:=by
    cases k with
    | zero=>rfl
    | succ m =>
     unfold aCp;rw[if_neg (by omega)]
   rw[this] at h3;rw[←h3];rfl
def aHT (s:List UInt8) (i:Nat):Option Nat:=if (s.getD i 0=120∨s.getD i 0=88)∧i+1<s.length∧s.getD (i+1) 0=39 then some (aAR (fun c=>!(c==39)) s (i+2)+1) else none
theorem aUy (s:List UInt8) (hs:Sm s) (i:Nat) (hi:i<s.length):FnC Tryz.prog 39 [sD s,iD i] (oN (aHT s i)):=by
 have hs':=hs;unfold Sm at hs;have c120 : ∀ c:UInt8,((c.toNat:Int)=120)↔c=120:=fun c=>u8_n c 120 (by omega);have c88 : ∀ c:UInt8,((c.toNat:Int)=88)↔c=88:=fun c=>u8_n c 88 (by omega);refine w39 (bs s) (i:Int) ?_;simp only[aAg,aAG,aAr,q39,c120,c88];rw[i64_in ((i:Int)+1) (by omega),i64_in ((i:Int)+2) (by omega),show ((i:Int)+1).toNat=i+1 by omega,Int.toNat_natCast];refine⟨by omega,fun _=>by omega,fun h=>by omega,fun h=>?_,fun h=>?_⟩
 · have:aHT s i=none:=by
    unfold aHT;rw[if_neg];rintro⟨h1,h2,h3⟩;rcases h with (h | h) | h
    · rcases h1 with h1 | h1
      · exact h.1 h1
      · exact h.2 h1
    · omega
    · exact h h3
   rw[this];rfl
 · have h1:s.getD i 0=120∨s.getD i 0=88:=Classical.byContradiction fun e=>h (.inl (.inl ⟨fun e1=>e (.inl e1),fun e1=>e (.inr e1)⟩));have h2:i+1<s.length:=Classical.byContradiction fun e=>h (.inl (.inr (by omega)));have h3:s.getD (i+1) 0=39:=Classical.byContradiction fun e=>h (.inr e)
   have:aHT s i=some (aAR (fun c=>!(c==39)) s (i+2)+1):=by
    unfold aHT;rw[if_pos ⟨h1,h2,h3⟩]
   rw[this];have hw:=aI2 s hs' (i+2) (by omega);have hle:=aC7 (fun c=>!(c==39)) s (i+2) (by omega);refine⟨(aAR (fun c=>!(c==39)) s (i+2):Nat),by rw[show ((i:Int)+2)=((i+2:Nat):Int) by omega]; exact hw,?_⟩;rw[i64_in _ (by omega)];rfl
def oneL (z:Int) (i:Nat):Option Nat :=
 if z=61 then some (i+1) else if z=60 then some (i+1) else if z=62 then some (i+1) else if z=43 then some (i+1) else if z=45 then some (i+1) else if z=42 then some (i+1) else if z=47 then some (i+1) else if z=37 then some (i+1) else if z=40 then some (i+1) else if z=41 then some (i+1) else if z=44 then some (i+1) else if z=46 then some (i+1) else if z=59 then some (i+1) else none
def cutL (s:List UInt8) (i e:Nat):List UInt8:=(s.take e).drop i
def aEj (s:List UInt8) (i:Nat):Option Nat :=
 if i+2≤s.length then (if cutL s i (i+2)=[124,124] then some (i+2) else if cutL s i (i+2)=[60,62] then some (i+2) else if cutL s i (i+2)=[60,61] then some (i+2) else if cutL s i (i+2)=[62,61] then some (i+2) else oneL ((s.getD i 0).toNat:Int) i) else oneL ((s.getD i 0).toNat:Int) i
theorem aSg {c:Prop} [Decidable c] {a e:Nat} {o:Option Nat}:(if c then some a else o)=some e↔(c∧a=e)∨(¬ c∧o=some e):=by
 by_cases h:c <;> simp[h]
theorem aQi {e:Nat}:((none:Option Nat)=some e)↔False:=⟨fun h=>(by cases h),fun h=>h.elim⟩
theorem aQI {z:Int} {i e:Nat} (h:oneL z i=some e):e=i+1:=by
 unfold oneL at h;simp only[aSg,aQi,and_false,or_false] at h;rcases h with h | ⟨_,h⟩
 · omega
 repeat (rcases h with h | ⟨_,h⟩; (· omega))
theorem aMH {s:List UInt8} {i e:Nat} (hi:i<s.length) (h:aEj s i=some e):i<e∧e≤s.length:=by
 unfold aEj at h;split at h
 · repeat' split at h
   all_goals first | (injection h with h; omega) | (have:=aQI h; omega)
 · have:=aQI h
   omega
theorem aVb (s:List UInt8) (hs:Sm s) (i:Nat) (hi:i<s.length):FnC Tryz.prog 46 [sD s,iD i] (oN (aEj s i)):=by
 unfold Sm at hs;refine w46 (bs s) (i:Int) ?_;simp only[aAg,aAG,aAr,aAT,aAu];rw[i64_in ((i:Int)+2) (by omega),i64_in ((i:Int)+1) (by omega),show ((i:Int)+2).toNat=i+2 by omega,Int.toNat_natCast]
 have e1:((i:Int)+1)=((i+1:Nat):Int):=by omega
 have e2:((i:Int)+2)=((i+2:Nat):Int):=by omega
 have fin : ∀ o:Option Nat,o=aEj s i→oN o=oN (aEj s i):=fun o h=>by rw[h]
 have he : ∀ z:Int,z=((s.getD i 0).toNat:Int)→True:=fun _ _=>trivial;refine⟨fun h=>⟨by omega,fun h1=>?_,fun h1=>⟨fun h2=>?_,fun h2=>⟨fun h3=>?_,fun h3=>⟨fun h4=>?_,fun h4=>⟨by omega,?_⟩⟩⟩⟩⟩,fun h=>⟨by omega,?_⟩⟩
 · exact fin (some (i+2)) (by unfold aEj cutL; rw[if_pos (by omega),if_pos h1])
 · exact fin (some (i+2)) (by unfold aEj cutL; rw[if_pos (by omega),if_neg h1,if_pos h2])
 · exact fin (some (i+2)) (by unfold aEj cutL; rw[if_pos (by omega),if_neg h1,if_neg h2,if_pos h3])
 · exact fin (some (i+2)) (by unfold aEj cutL; rw[if_pos (by omega),if_neg h1,if_neg h2,if_neg h3,if_pos h4])
 · have es:aEj s i=oneL ((s.getD i 0).toNat:Int) i:=by unfold aEj cutL; rw[if_pos (by omega),if_neg h1,if_neg h2,if_neg h3,if_neg h4]
   rw[es];unfold oneL
   repeat' (refine⟨fun g=>by rw[if_pos g]; rfl,fun g=>?_⟩; rw[if_neg g])
   rfl
 · have es:aEj s i=oneL ((s.getD i 0).toNat:Int) i:=by unfold aEj cutL; rw[if_neg (by omega)]
   rw[es];unfold oneL
   repeat' (refine⟨fun g=>by rw[if_pos g]; rfl,fun g=>?_⟩; rw[if_neg g])
   rfl
end
section
open Go.RowKit Go.IntWalk
theorem aCP {s:List UInt8} (hs:Sm s) (i e:Nat):Sm (cutL s i e):=by
 unfold Sm cutL at *;rw[List.length_drop,List.length_take];omega
def badT (e:Int):Tok×Nat×Int:=(⟨0,[],nul,0⟩,0,e)
def tokD (r:Tok×Nat×Int):DV:=.tup [.agg r.1.cells,iD (r.2.1:Nat),iD r.2.2]
def aDp (s:List UInt8) (i e:Nat):Tok×Nat×Int:=if (aBr (cutL s i e)).2=0 then (⟨3,cutL s i e,(aBr (cutL s i e)).1,i⟩,e,0) else badT (aBr (cutL s i e)).2
theorem aMA (s:List UInt8) (hs:Sm s) (i e:Nat) (hi:i≤e) (he:e≤s.length):FnC Tryz.prog 40 [sD s,iD i,iD e] (tokD (aDp s i e)):=by
 have hs':=hs;unfold Sm at hs;refine w40 (bs s) (i:Int) (e:Int) ?_;simp only[aAg,aAT,Int.toNat_natCast];obtain⟨r,hr⟩ : ∃ r,r=aBr (cutL s i e):=⟨_,rfl⟩;refine⟨by omega,r.1.1,r.1.2.1,bs r.1.2.2,r.2,?_,fun h=>?_,fun h=>⟨by omega,?_⟩⟩
 · have:=aOm (cutL s i e) (aCP hs' i e)
   rw[hr];exact this
 · unfold aDp;rw[←hr,if_neg h];rfl
 · have h:=Classical.byContradiction h;unfold aDp;rw[←hr,if_pos h];rfl
def wordsB:ByteArray:=(⟨#[32,97,108,108,32,97,110,100,32,97,115,32,97,115,99,32,98,101,116,119,101,101,110,32,98,121,32,99,97,115,101,32,99,97,115,116,32,99,111,108,108,97,116,101,32,99,114,101,97,116,101,32,99,114,111,115,115,32,100,101,108,101,116,101,32,100,101,115,99,32,100,105,115,116,105,110,99,116,32,100,114,111,112,32,101,108,115,101,32,101,110,100,32,101,120,99,101,112,116,32,101,120,105,115,116,115,32,102,114,111,109,32,103,114,111,117,112,32,104,97,118,105,110,103,32,105,102,32,105,110,32,105,110,100,101,120,32,105,110,110,101,114,32,105,110,115,101,114,116,32,105,110,116,101,114,115,101,99,116,32,105,110,116,111,32,105,115,32,106,111,105,110,32,108,101,102,116,32,108,105,107,101,32,108,105,109,105,116,32,110,111,116,32,110,117,108,108,32,111,102,102,115,101,116,32,111,110,32,111,114,32,111,114,100,101,114,32,115,101,108,101,99,116,32,115,101,116,32,116,97,98,108,101,32,116,104,101,110,32,117,110,105,111,110,32,117,112,100,97,116,101,32,118,97,108,117,101,115,32,119,104,101,110,32,119,104,101,114,101,32]⟩:ByteArray)
set_option maxRecDepth 100000 in
set_option maxHeartbeats 1000000 in
theorem aOx (s:List UInt8) (hs:Sm s) : ∃ b,FnC Tryz.prog 44 [sD s] (bD b):=by
 have hf:(aAn s).length=s.length:=aCr s;have hs2:=hs;unfold Sm at hs2;by_cases h1 : ∃ j,j<s.length∧(((aAn s).getD j 0).toNat<97∨122<((aAn s).getD j 0).toNat)
 · refine⟨false,w44 (bs s) ⟨bs (aAn s),aAL s hs.sz,?_⟩⟩;simp only[aAg,aAG,aAr,hf];refine⟨fun x k=>0≤x∧x≤s.length∧k=s.length - x.toNat∧∀ j,j<x.toNat→¬ (((aAn s).getD j 0).toNat<97∨122<((aAn s).getD j 0).toNat),⟨_,by omega,by omega,rfl,fun j hj=>by simp at hj⟩,?_⟩;rintro k x ⟨h0,hx,rfl,hg⟩
   refine⟨fun h=>⟨by omega,fun _=>by omega,fun _=>by first | rfl | trivial,fun hn=>?_⟩,fun h=>?_⟩
   · rw[i64_in _ (by omega)];refine⟨s.length - (x+1).toNat,by omega,by omega,by omega,rfl,fun j hj=>?_⟩;by_cases e:j=x.toNat
     · subst e; omega
     · exact hg j (by omega)
   · obtain⟨j,hj,hb⟩:=h1;exact absurd hb (hg j (by omega))
 · have go : ∀ b:Bool,(b=true↔∃ x:Int,0≤x∧x+s.length+2≤270∧¬ bs (aAn s)=(⟨#[]⟩:ByteArray)∧aAk wordsB x=32∧wordsB.extract (x+1).toNat (x+1+s.length).toNat=bs (aAn s)∧aAk wordsB (x+1+s.length)=32)→FnC Tryz.prog 44 [sD s] (bD b):=fun b hb=>by
    refine w44 (bs s) ⟨bs (aAn s),aAL s hs.sz,?_⟩;have hW:(⟨#[32,97,108,108,32,97,110,100,32,97,115,32,97,115,99,32,98,101,116,119,101,101,110,32,98,121,32,99,97,115,101,32,99,97,115,116,32,99,111,108,108,97,116,101,32,99,114,101,97,116,101,32,99,114,111,115,115,32,100,101,108,101,116,101,32,100,101,115,99,32,100,105,115,116,105,110,99,116,32,100,114,111,112,32,101,108,115,101,32,101,110,100,32,101,120,99,101,112,116,32,101,120,105,115,116,115,32,102,114,111,109,32,103,114,111,117,112,32,104,97,118,105,110,103,32,105,102,32,105,110,32,105,110,100,101,120,32,105,110,110,101,114,32,105,110,115,101,114,116,32,105,110,116,101,114,115,101,99,116,32,105,110,116,111,32,105,115,32,106,111,105,110,32,108,101,102,116,32,108,105,107,101,32,108,105,109,105,116,32,110,111,116,32,110,117,108,108,32,111,102,102,115,101,116,32,111,110,32,111,114,32,111,114,100,101,114,32,115,101,108,101,99,116,32,115,101,116,32,116,97,98,108,101,32,116,104,101,110,32,117,110,105,111,110,32,117,112,100,97,116,101,32,118,97,108,117,101,115,32,119,104,101,110,32,119,104,101,114,101,32]⟩:ByteArray)=wordsB:=rfl;rw[hW];generalize wordsB=W at hb ⊢;simp only[aAg,aAr,hf];refine⟨fun x k=>0≤x∧x≤s.length∧k=s.length - x.toNat,⟨_,by omega,by omega,rfl⟩,?_⟩;rintro k x ⟨h0,hx,rfl⟩;refine⟨fun h=>⟨by omega,fun _=>by omega,fun hbad=>absurd ⟨x.toNat,by omega,by omega⟩ h1,fun hn=>?_⟩,fun h=>?_⟩
    · rw[i64_in _ (by omega)];exact⟨s.length - (x+1).toNat,by omega,by omega,by omega,rfl⟩
    clear h h0 hx;refine⟨fun x k=>0≤x∧x≤300∧k=400 - x.toNat∧∀ y:Int,0≤y→y<x→¬ (aAk W y=32∧W.extract (y+1).toNat (y+1+s.length).toNat=bs (aAn s)∧aAk W (y+1+s.length)=32),⟨_,by omega,by omega,rfl,fun y h1 h2=>by omega⟩,?_⟩;rintro k y ⟨h0,hy,rfl,hg⟩;rw[i64_in (y+s.length) (by omega),i64_in (y+s.length+2) (by omega),i64_in (y+1) (by omega),i64_in (y+1+s.length) (by omega)];refine⟨fun h=>⟨by omega,fun _=>by omega,fun _=>by omega,fun hh=>?_,fun hn=>?_⟩,fun h=>?_⟩
    · have:b=true:=hb.2 ⟨y,h0,h.1,h.2,hh.1.1,hh.1.2,hh.2⟩
      rw[this]
    · refine⟨400 - (y+1).toNat,by omega,by omega,by omega,rfl,fun u h1 h2 hh=>?_⟩;by_cases e:u=y
      · subst e;exact hn ⟨⟨hh.1,hh.2.1⟩,hh.2.2⟩
      · exact hg u h1 (by omega) hh
    · have:b=false:=by
       cases b with
       | false=>rfl
       | true =>
        exfalso;obtain⟨u,h1,h2,h3,h4,h5,h6⟩:=hb.1 rfl;exact hg u h1 (Classical.byContradiction fun e=>h ⟨by omega,h3⟩) ⟨h4,h5,h6⟩
      rw[this]
   by_cases h2 : ∃ x:Int,0≤x∧x+s.length+2≤270∧¬ bs (aAn s)=(⟨#[]⟩:ByteArray)∧aAk wordsB x=32∧wordsB.extract (x+1).toNat (x+1+s.length).toNat=bs (aAn s)∧aAk wordsB (x+1+s.length)=32
   · exact⟨true,go true ⟨fun _=>h2,fun _=>rfl⟩⟩
   · exact⟨false,go false ⟨fun h=>(by cases h),fun h=>absurd h h2⟩⟩
noncomputable def aRa (s:List UInt8):Bool:=if h:s.length≤1100000 then Classical.choose (aOx s (show Sm s from h)) else false
theorem aVl (s:List UInt8) (hs:Sm s):FnC Tryz.prog 44 [sD s] (bD (aRa s)):=by
 unfold aRa;rw[dif_pos (show s.length≤1100000 from hs)];exact Classical.choose_spec (aOx s hs)
noncomputable def aC1 (s:List UInt8) (i:Nat):Tok×Nat×Int :=
 if letB (s.getD i 0)=true then
  (match aHT s i with
  | some e=>if s.length<e then badT 8 else aDp s i e
  | none=>if aRa (cutL s i (aAR (fun c=>letB c||aAI c) s i))=true then (⟨2,aAn (cutL s i (aAR (fun c=>letB c||aAI c) s i)),nul,i⟩,aAR (fun c=>letB c||aAI c) s i,0)
   else if 32<(cutL s i (aAR (fun c=>letB c||aAI c) s i)).length then badT 3 else (⟨1,cutL s i (aAR (fun c=>letB c||aAI c) s i),nul,i⟩,aAR (fun c=>letB c||aAI c) s i,0))
 else if aAI (s.getD i 0)=true then
  (if aAR aAI s i<s.length∧letB (s.getD (aAR aAI s i) 0)=true then badT 8
  else if (aB5 (cutL s i (aAR aAI s i))).2=0 then (⟨3,cutL s i (aAR aAI s i),(1,(aB5 (cutL s i (aAR aAI s i))).1,[]),i⟩,aAR aAI s i,0) else badT (aB5 (cutL s i (aAR aAI s i))).2)
 else if s.getD i 0=39 then (match aFG s i with | some e=>aDp s i e | none=>badT 8)
 else (match aEj s i with | some e=>(⟨4,cutL s i e,nul,i⟩,e,0) | none=>badT 8)
theorem aIr {s:List UInt8} {i e:Nat} (h:(aDp s i e).2.2=0):(aDp s i e).2.1=e:=by
 unfold aDp at h ⊢;split
 · rfl
 · rename_i h1;rw[if_neg h1] at h;exact absurd h h1
theorem aOO {s:List UInt8} {i:Nat} (hi:i<s.length) (h:(aC1 s i).2.2=0):i<(aC1 s i).2.1∧(aC1 s i).2.1≤s.length:=by
 unfold aC1 at h ⊢;by_cases h1:letB (s.getD i 0)=true
 · rw[if_pos h1] at h ⊢
   cases hb:aHT s i with
   | some e =>
    rw[hb] at h;simp only at h ⊢;by_cases h2:s.length<e
    · rw[if_pos h2] at h; cases h
    · rw[if_neg h2] at h ⊢;rw[aIr h];unfold aHT at hb;split at hb
      · injection hb with hb
        have:=aGW (fun c=>!(c==39)) s (i+2)
        omega
      · cases hb
   | none =>
    rw[hb] at h;simp only at h ⊢;have g1:=aD2 (p:=fun c=>letB c||aAI c) hi (by show (letB (s.getD i 0)||aAI (s.getD i 0))=true; rw[h1]; rfl);have g2:=aC7 (fun c=>letB c||aAI c) s i (by omega);by_cases h2:aRa (cutL s i (aAR (fun c=>letB c||aAI c) s i))=true
    · rw[if_pos h2]; exact⟨g1,g2⟩
    · rw[if_neg h2] at h ⊢;by_cases h3:32<(cutL s i (aAR (fun c=>letB c||aAI c) s i)).length
      · rw[if_pos h3] at h; cases h
      · rw[if_neg h3]; exact⟨g1,g2⟩
 · rw[if_neg h1] at h ⊢;by_cases h2:aAI (s.getD i 0)=true
   · rw[if_pos h2] at h ⊢;have g1:=aD2 (p:=aAI) hi h2;have g2:=aC7 aAI s i (by omega);by_cases h3:aAR aAI s i<s.length∧letB (s.getD (aAR aAI s i) 0)=true
     · rw[if_pos h3] at h; cases h
     · rw[if_neg h3] at h ⊢;by_cases h4:(aB5 (cutL s i (aAR aAI s i))).2=0
       · rw[if_pos h4]; exact⟨g1,g2⟩
       · rw[if_neg h4] at h; exact absurd h h4
   · rw[if_neg h2] at h ⊢;by_cases h3:s.getD i 0=39
     · rw[if_pos h3] at h ⊢
       cases hq:aFG s i with
       | some e =>
        rw[hq] at h;simp only at h ⊢
        have:=aIt hq
        rw[aIr h];omega
       | none=>rw[hq] at h; cases h
     · rw[if_neg h3] at h ⊢
       cases hq:aEj s i with
       | some e =>
        have:=aMH hi hq
        exact this
       | none=>rw[hq] at h; cases h
theorem aRB (s:List UInt8) (hs:Sm s) (i:Nat) (hi:i<s.length):FnC Tryz.prog 28 [sD s,iD i] (tokD (aC1 s i)):=by
 have hs':=hs;unfold Sm at hs';refine w28 (bs s) (i:Int) ?_;simp only[aAg,aAG,aAr,aAT,Int.toNat_natCast,q39];unfold aC1;refine⟨by omega,_,aG5 _,fun h1=>?_,fun h1=>?_⟩
 · rw[if_pos h1];have cb:=aUy s hs i hi
   cases hb:aHT s i with
   | some e =>
    rw[hb] at cb
    have hin:i<e:=by
     unfold aHT at hb;split at hb
     · injection hb with hb
       have:=aGW (fun c=>!(c==39)) s (i+2)
       omega
     · cases hb
    refine⟨(e:Nat),true,cb,fun _=>⟨fun h2=>?_,fun h2=>?_⟩,fun h=>absurd rfl h⟩
    · simp only;rw[if_pos (by omega)];rfl
    · simp only;rw[if_neg (by omega)];obtain⟨r,hr⟩ : ∃ r,r=aDp s i e:=⟨_,rfl⟩;have cv:=aMA s hs i e (by omega) (by omega);rw[←hr] at cv ⊢;exact⟨r.1.kd,bs r.1.tx,r.1.vl.1,r.1.vl.2.1,bs r.1.vl.2.2,r.1.pl,(r.2.1:Nat),r.2.2,cv,rfl⟩
   | none =>
    rw[hb] at cb;refine⟨0,false,cb,fun h=>(by cases h),fun _=>?_⟩;simp only;have g1:=aD2 (p:=fun c=>letB c||aAI c) hi (by show (letB (s.getD i 0)||aAI (s.getD i 0))=true; rw[h1]; rfl);have g2:=aC7 (fun c=>letB c||aAI c) s i (by omega);obtain⟨e,he⟩ : ∃ e,e=aAR (fun c=>letB c||aAI c) s i:=⟨_,rfl⟩;have cw:=aKc s hs i (by omega);rw[←he] at cw g1 g2 ⊢;refine⟨(e:Nat),cw,by omega,?_⟩;simp only[Int.toNat_natCast,aAg];refine⟨_,aVl (cutL s i e) (aCP hs i e),fun h2=>⟨bs (aAn (cutL s i e)),aAL _ (aCP hs i e).sz,?_⟩,fun h2=>⟨fun h3=>?_,fun h3=>?_⟩⟩
    · rw[if_pos h2]; rfl
    · rw[if_neg h2,if_pos (by unfold cutL; omega)]; rfl
    · rw[if_neg h2,if_neg (by unfold cutL; omega)]; rfl
 · rw[if_neg h1];refine⟨_,aJa _,fun h2=>?_,fun h2=>?_⟩
   · rw[if_pos h2];have g1:=aD2 (p:=aAI) hi h2;have g2:=aC7 aAI s i (by omega);obtain⟨e,he⟩ : ∃ e,e=aAR aAI s i:=⟨_,rfl⟩;have cw:=aLD s hs i (by omega);rw[←he] at cw g1 g2 ⊢;refine⟨(e:Nat),cw,fun _=>by omega,letB (s.getD e 0),fun _=>by rw[Int.toNat_natCast]; exact aG5 _,fun h3=>?_,fun h3=>⟨by omega,?_⟩⟩
     · rw[if_pos ⟨by omega,h3.2⟩]; rfl
     · rw[if_neg (fun h=>h3 ⟨by omega,h.2⟩)];simp only[Int.toNat_natCast];obtain⟨r,hr⟩ : ∃ r,r=aB5 (cutL s i e):=⟨_,rfl⟩;have cr:=aCs (cutL s i e) (aCP hs i e).sz;rw[←hr] at cr ⊢;refine⟨r.1,r.2,cr,fun h4=>?_,fun h4=>⟨by omega,?_⟩⟩
       · rw[if_neg h4]; rfl
       · rw[if_pos (Classical.byContradiction h4)]; rfl
   · rw[if_neg h2];refine⟨fun h3=>?_,fun h3=>?_⟩
     · rw[if_pos h3];have cq:=aR5 s hs i hi
       cases hq:aFG s i with
       | some e =>
        rw[hq] at cq;have hin:=aIt hq;refine⟨(e:Nat),true,cq,fun h=>absurd rfl h,fun _=>?_⟩;simp only;obtain⟨r,hr⟩ : ∃ r,r=aDp s i e:=⟨_,rfl⟩;have cv:=aMA s hs i e (by omega) (by omega);rw[←hr] at cv ⊢;exact⟨r.1.kd,bs r.1.tx,r.1.vl.1,r.1.vl.2.1,bs r.1.vl.2.2,r.1.pl,(r.2.1:Nat),r.2.2,cv,rfl⟩
       | none =>
        rw[hq] at cq;exact⟨0,false,cq,fun _=>rfl,fun h=>absurd (fun e=>by cases e) h⟩
     · rw[if_neg h3];have cq:=aVb s hs i hi
       cases hq:aEj s i with
       | some e =>
        rw[hq] at cq;have hin:=aMH hi hq;refine⟨(e:Nat),true,cq,fun h=>absurd rfl h,fun _=>⟨by omega,?_⟩⟩;simp only[Int.toNat_natCast];rfl
       | none =>
        rw[hq] at cq;exact⟨0,false,cq,fun _=>rfl,fun h=>absurd (fun e=>by cases e) h⟩
noncomputable def aGg (s:List UInt8):Nat→List Tok→Nat→List Tok×Nat×Int
 | 0,l,i=>([],i,3)
 | n+1,l,i=>if i=s.length then (l++[⟨0,[],nul,s.length⟩],0,0) else if l.length=4096 then ([],i,3)
  else if (aC1 s i).2.2=0 then aGg s n (l++[(aC1 s i).1]) (aCU s (aC1 s i).2.1) else ([],i,(aC1 s i).2.2)
noncomputable def aBa (s:List UInt8):List Tok×Nat×Int:=if 65536<s.length then ([],0,3) else aGg s (s.length+1) [] (aCU s 0)
theorem aSw (s:List UInt8) (hs:Sm s):FnC Tryz.prog 11 [sD s] (.tup [.c (.vs (tc (aBa s).1)),iD ((aBa s).2.1:Nat),iD (aBa s).2.2]):=by
 have hs':=hs;unfold Sm at hs';refine w11 (bs s) ?_;simp only[aAg,aAG];refine⟨fun h=>?_,fun h=>?_⟩
 · unfold aBa;rw[if_pos (by omega)];rfl
 refine⟨(aCU s 0:Nat),aMU s hs 0 (by omega),?_⟩;refine⟨fun rows x k=>∃ (l:List Tok) (i:Nat),rows=tc l∧x=(i:Int)∧i≤s.length∧l.length≤4096∧s.length+1 - i≤k∧aGg s k l i=aBa s,⟨s.length+1,[],aCU s 0,rfl,rfl,aH8 s 0 (by omega),by simp,by omega,?_⟩,?_⟩
 · unfold aBa;rw[if_neg (by omega)]
 rintro k rows x ⟨l,i,rfl,rfl,hi,hl,hk,hR⟩;rw[aFT]
 cases k with
 | zero=>omega
 | succ m =>
  unfold aGg at hR;refine⟨fun h x4 e4=>?_,fun h=>⟨fun h2=>?_,fun h2=>?_⟩⟩
  · subst e4;refine⟨by simp only[List.length_cons,List.length_nil]; omega,fun x5 e5=>?_⟩;rw[if_pos (by omega)] at hR;rw[←hR,e5]
    have:tc (l++[⟨0,[],nul,(s.length:Int)⟩])=tc l++[Tok.cells ⟨0,[],nul,(s.length:Int)⟩]:=by simp[tc]
    simp only[this];rfl
  · rw[if_neg (by omega),if_pos (by omega)] at hR;rw[←hR];rfl
  · rw[if_neg (by omega),if_neg (by omega)] at hR;have ct:=aRB s hs i (by omega);have hin:=aOO (s:=s) (i:=i) (by omega);obtain⟨r,hr⟩ : ∃ r,r=aC1 s i:=⟨_,rfl⟩;rw[←hr] at ct hin hR;refine⟨r.1.kd,bs r.1.tx,r.1.vl.1,r.1.vl.2.1,bs r.1.vl.2.2,r.1.pl,(r.2.1:Nat),r.2.2,ct,fun h3=>?_,fun h3 x12 e12=>?_⟩
    · rw[if_neg h3] at hR;rw[←hR];rfl
    · have h3:=Classical.byContradiction h3;rw[if_pos h3] at hR;have hin:=hin h3;subst e12;refine⟨by simp only[List.length_cons,List.length_nil]; omega,fun x13 e13=>?_⟩
      have e14:x13=tc (l++[r.1]):=by rw[e13]; simp[tc,Tok.cells]
      have g1:=aN7 s r.2.1;have g2:=aH8 s r.2.1 (by omega);exact⟨(aCU s r.2.1:Nat),aMU s hs r.2.1 (by omega),m,by omega,l++[r.1],aCU s r.2.1,e14,rfl,g2,by rw[List.length_append]; simp only[List.length_cons,List.length_nil]; omega,by omega,hR⟩
theorem aKd (s:List UInt8) : ∀ (n:Nat) (l:List Tok) (i:Nat),(aGg s n l i).2.2=0→∃ l':List Tok,(aGg s n l i).1=l'++[⟨0,[],nul,s.length⟩]
 | 0,l,i,h=>by cases h
 | n+1,l,i,h=>by
  unfold aGg at h ⊢;split
  · exact⟨l,rfl⟩
  · rename_i h1;rw[if_neg h1] at h;split
    · rename_i h2;rw[if_pos h2] at h;cases h
    · rename_i h2;rw[if_neg h2] at h;split
      · rename_i h3;rw[if_pos h3] at h;exact aKd s n _ _ h
      · rename_i h3;rw[if_neg h3] at h;exact absurd h h3
theorem aPC {s:List UInt8} (h:(aBa s).2.2=0) : ∃ l':List Tok,(aBa s).1=l'++[⟨0,[],nul,s.length⟩]:=by
 unfold aBa at h ⊢;split
 · rename_i h1;rw[if_pos h1] at h;cases h
 · rename_i h1;rw[if_neg h1] at h;exact aKd s _ _ _ h
end
end Go.Proofs.YtcdeimjlgpfjiaaGreatDoor
