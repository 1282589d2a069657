/- The short expression that is read, told and reckoned. No condition. -/
import Derived.Test.YtcdeimjlgpfjiaaGreatDoorG27
import Derived.Test.YtcdeimjlgpfjiaaGreatDoorG29
import Derived.Test.YtcdeimjlgpfjiaaGreatDoorG32
import Derived.Test.YtcdeimjlgpfjiaaGreatDoorG26
import Derived.Test.YtcdeimjlgpfjiaaGreatDoorG13
import Derived.Test.YtcdeimjlgpfjiaaGreatDoorG12
import Derived.Test.YtcdeimjlgpfjiaaGreatDoorTie
import Derived.Test.YtcdeimjlgpfjiaaGreatDoorCards
import Derived.HandedShaped
import Derived.PinnedBridge
import Derived.LaidOnce
import Derived.Lay
import Derived.SevenTiedAt
set_option linter.unusedSimpArgs false
set_option linter.unusedVariables false
namespace Go.Proofs.YtcdeimjlgpfjiaaGreatDoor
section
open Go.RowKit Go.IntWalk
abbrev oneX (n:Int):Xp:=.mk 1 [] (1,n,[]) [] [] 0 false false []
abbrev sumX:Xp:=.mk 4 [43] nul [] [] 0 false false [oneX 1,oneX 2]
theorem aSe:aBa [49,32,43,32,50]=([⟨3,[49],(1,1,[]),0⟩,⟨4,[43],nul,2⟩,⟨3,[50],(1,2,[]),4⟩,⟨0,[],nul,5⟩],0,0):=by kernel_rfl
theorem aOX:aBc [⟨3,[49],(1,1,[]),0⟩,⟨4,[43],nul,2⟩,⟨3,[50],(1,2,[]),4⟩,⟨0,[],nul,5⟩] 0=(sumX,3,0):=by kernel_rfl
theorem aU1:ofR [49,32,43,32,50]=(sumX,5,0):=by
 unfold ofR;rw[aSe];simp only;rw[aOX];rfl
theorem aU9:evX [] sumX=((1,3,[]),0):=by kernel_rfl
theorem aU8:Fv sumX:=by
 refine⟨⟨aAm 4 (by decide),aAC,aAm 0 (by decide)⟩,⟨by decide,aAO,aAO⟩,by decide,?_,?_,trivial⟩
 · exact⟨⟨aAm 1 (by decide),⟨aAm 1 (by decide),aAm 1 (by decide),aAO⟩,aAm 0 (by decide)⟩,⟨aAO,aAO,aAO⟩,by decide,trivial⟩
 · exact⟨⟨aAm 1 (by decide),⟨aAm 1 (by decide),aAm 2 (by decide),aAO⟩,aAm 0 (by decide)⟩,⟨aAO,aAO,aAO⟩,by decide,trivial⟩
theorem aKQ (n:Int) (h:I64 n):FnC Tryz.prog 7 [xD (oneX n)] (sD (numL n)):=by
 have hq:=aIR (1,n,[]) h aAO;unfold xD;simp only[Xp.cells];exact w7 1 (bs []) 1 n (bs []) (bs []) (bs []) 0 false false (xcs []) ⟨fun _=>⟨_,hq,rfl⟩,fun hn=>absurd rfl hn⟩
theorem aSq:PrL [oneX 1,oneX 2] [[49],[50]]:=by
 have p1:=aKQ 1 (aAm 1 (by decide));have p2:=aKQ 2 (aAm 2 (by decide));rw[show numL 1=[49] from by kernel_rfl] at p1;rw[show numL 2=[50] from by kernel_rfl] at p2;refine⟨rfl,fun i h=>?_⟩
 match i,h with
 | 0,_=>exact⟨by simp[plX,plXs],p1⟩
 | 1,_=>exact⟨by simp[plX,plXs],p2⟩
 | i+2,h=>simp at h; omega
theorem aPs:FnC Tryz.prog 7 [xD sumX] (sD [49,32,43,32,50]):=by
 have hi0:FnC Tryz.prog 16 [xD sumX,iD 0] (sD [49]):=aGX aSq (by decide) 0;have hi1:FnC Tryz.prog 16 [xD sumX,iD 1] (sD [50]):=aGX aSq (by decide) 1;unfold xD at hi0 hi1 ⊢;simp only[Xp.cells] at hi0 hi1 ⊢;refine w7 4 (bs [43]) 0 0 (bs []) (bs []) (bs []) 0 false false (xcs [oneX 1,oneX 2]) ⟨fun hn=>absurd hn (by decide),fun _=>⟨fun hn=>absurd hn (by decide),fun _=>⟨fun hn=>absurd hn (by decide),fun _=>⟨fun _=>⟨_,hi0,?_,?_,?_,_,hi1,?_,?_⟩,fun hn=>absurd rfl hn⟩⟩⟩⟩
 all_goals first | decide | rfl
theorem aTl:FnC Tryz.prog 5 [] (bD true):=by
 have h1:=c_Of [49,32,43,32,50] (by decide);rw[aU1] at h1;have h2:=aRZ [] (by simp) sumX aU8;rw[aU9] at h2;have h3:=aPs;unfold EvR at h2;unfold xD at h1 h2 h3;simp only[Xp.cells] at h1 h2 h3
 exact w5 ⟨_,_,_,_,_,_,_,_,_,_,_,_,_,h1,_,_,_,_,h2,_,fun _=>h3,by
  have e1:(⟨#[49,32,43,32,50]⟩:ByteArray)=bs [49,32,43,32,50]:=rfl;have e2:(⟨#[]⟩:ByteArray)=bs []:=rfl;rw[e1,e2,aAh,aAh];rfl⟩
end
section
open Go.RowKit Go.IntWalk
mutual
def aBm:Xp→Xp
 | .mk k op v tb nm sl nt ds args=>if k=2 then .mk 2 [] nul [] (120::numL sl) 0 false false [] else .mk k op v tb nm sl nt ds (aA8 args)
def aA8:List Xp→List Xp
 | []=>[]
 | e::r=>aBm e::aA8 r
end
mutual
def aE4:Xp→Xp
 | .mk k op v tb nm sl nt ds args=>.mk k op v tb nm 0 nt ds (aBK args)
def aBK:List Xp→List Xp
 | []=>[]
 | e::r=>aE4 e::aBK r
end
def aF1 (nm:List UInt8):Int×Int:=aB5 (nm.drop (min 1 nm.length))
def aCM (nm:List UInt8):Prop:=(aF1 nm).2≠0∨(aF1 nm).1<0∨99<(aF1 nm).1
instance (nm:List UInt8):Decidable (aCM nm):=by unfold aCM; infer_instance
mutual
def aBb:Xp→Xp×Bool
 | .mk k op v tb nm sl nt ds args=>if k=2∧aCM nm then (.mk k op v tb nm sl nt ds args,false)
  else (.mk k op v tb nm (if k=2 then (aF1 nm).1 else sl) nt ds (aAA args).1,(aAA args).2)
def aAA:List Xp→List Xp×Bool
 | []=>([],true)
 | e::r=>((aBb e).1::(aAA r).1,(aBb e).2&&(aAA r).2)
end
theorem aEI : ∀ l,(aA8 l).length=l.length
 | []=>rfl
 | e::r=>by simp[aA8,aEI r]
theorem aFk : ∀ l,(aBK l).length=l.length
 | []=>rfl
 | e::r=>by simp[aBK,aFk r]
theorem aDk : ∀ l,(aAA l).1.length=l.length
 | []=>rfl
 | e::r=>by simp[aAA,aDk r]
theorem aHm : ∀ l r,aA8 (l++r)=aA8 l++aA8 r
 | [],r=>rfl
 | e::l,r=>by simp[aA8,aHm l r]
theorem aIg : ∀ l r,aBK (l++r)=aBK l++aBK r
 | [],r=>rfl
 | e::l,r=>by simp[aBK,aIg l r]
theorem aGM : ∀ l r,aAA (l++r)=((aAA l).1++(aAA r).1,(aAA l).2&&(aAA r).2)
 | [],r=>by simp[aAA]
 | e::l,r=>by simp[aAA,aGM l r,Bool.and_assoc]
theorem aFE (l:List Xp) (K:Nat) (h:K<l.length):l.take (K+1)=l.take K++[l[K]]:=by
 rw[List.take_add_one];simp[h]
theorem aGl (l:List Xp) (e:Xp):xcs l++[e.cells]=xcs (l++[e]):=by rw[aOD]; rfl
theorem aRY (k:Int) (op:List UInt8) (v:V3) (tb nm:List UInt8) (sl:Int) (nt ds:Bool) (args:List Xp) (hsl:I64 sl) (hn:args.length≤1000000) (H : ∀ i (h:i<args.length),FnC Tryz.prog 6 [xD args[i]] (xD (aBm args[i]))) :
 FnC Tryz.prog 6 [xD (.mk k op v tb nm sl nt ds args)] (xD (aBm (.mk k op v tb nm sl nt ds args))):=by
 unfold aBm;by_cases hk:k=2
 · rw[if_pos hk];unfold xD;simp only[Xp.cells];refine w6 k (bs op) v.1 v.2.1 (bs v.2.2) (bs tb) (bs nm) sl nt ds (xcs args) ⟨fun _=>?_,fun h=>absurd hk h⟩;have hl:=aDb sl hsl;refine⟨bs (numL sl),aDD sl hsl,?_,?_⟩
   · rw[aAg];show ((1+(numL sl).length:Nat):Int)≤_;omega
   · have e:(⟨#[120]⟩:ByteArray)=bs [120]:=rfl;rw[e,aAi];rfl
 · rw[if_neg hk];unfold xD;simp only[Xp.cells];refine w6 k (bs op) v.1 v.2.1 (bs v.2.2) (bs tb) (bs nm) sl nt ds (xcs args) ⟨fun h=>absurd h hk,fun _=>?_⟩;rw[aAW];refine⟨fun rows i n=>∃ K:Nat,i=K∧K≤args.length∧n=args.length - K∧rows=xcs (aA8 (args.take K)),⟨_,0,rfl,by omega,rfl,rfl⟩,?_⟩;rintro n rows i ⟨K,rfl,hK,rfl,rfl⟩;refine⟨fun h=>?_,fun h=>?_⟩
   · have hlt:K<args.length:=by omega
     rw[xs_D _ (K:Int) (by omega) (by omega)];have hH:=H K hlt;obtain⟨e,he⟩ : ∃ e,e=aBm args[K]:=⟨_,rfl⟩;rw[←he] at hH
     have hsn:aA8 (args.take (K+1))=aA8 (args.take K)++[e]:=by rw[aFE args K hlt,aHm,he]; rfl
     obtain⟨k',op',v',tb',nm',sl',nt',ds',args'⟩:=e;refine⟨⟨by omega,by omega⟩,aA2 _,xs_k _ _ (by omega) (by omega),k',bs op',v'.1,v'.2.1,bs v'.2.2,bs tb',bs nm',sl',nt',ds',xcs args',hH,fun x24 h24=>⟨?_,fun x25 h25=>⟨args.length - (K+1),by omega,K+1,?_,by omega,rfl,?_⟩⟩⟩
     · rw[h24,aAW,aEI];simp only[List.length_cons,List.length_nil,List.length_take];omega
     · rw[i64_in _ (by omega)]; omega
     · rw[h25,h24,hsn,←aGl];simp only[Xp.cells]
   · have:K=args.length:=by omega
     subst this;rw[List.take_length]
mutual
theorem aQC : ∀ e:Xp,Fv e→FnC Tryz.prog 6 [xD e] (xD (aBm e))
 | .mk k op v tb nm sl nt ds args,h=>by
  simp only[Fv] at h;exact aRY k op v tb nm sl nt ds args h.1.2.2 h.2.2.1 (aMn args h.2.2.2)
theorem aMn : ∀ l:List Xp,Fvs l→∀ i (h:i<l.length),FnC Tryz.prog 6 [xD l[i]] (xD (aBm l[i]))
 | [],_,i,h=>by simp at h
 | e::l,hf,0,h=>by
  simp only[Fvs] at hf;exact aQC e hf.1
 | e::l,hf,i+1,h=>by
  simp only[Fvs] at hf;exact aMn l hf.2 i (by simpa using h)
end
theorem aUa (k:Int) (op:List UInt8) (v:V3) (tb nm:List UInt8) (sl:Int) (nt ds:Bool) (args:List Xp) (hn:args.length≤1000000) (H : ∀ i (h:i<args.length),FnC Tryz.prog 10 [xD args[i]] (xD (aE4 args[i]))) :
 FnC Tryz.prog 10 [xD (.mk k op v tb nm sl nt ds args)] (xD (aE4 (.mk k op v tb nm sl nt ds args))):=by
 unfold aE4;unfold xD;simp only[Xp.cells];refine w10 k (bs op) v.1 v.2.1 (bs v.2.2) (bs tb) (bs nm) sl nt ds (xcs args) ?_;rw[aAW];refine⟨fun rows i n=>∃ K:Nat,i=K∧K≤args.length∧n=args.length - K∧rows=xcs (aBK (args.take K)),⟨_,0,rfl,by omega,rfl,rfl⟩,?_⟩;rintro n rows i ⟨K,rfl,hK,rfl,rfl⟩;refine⟨fun h=>?_,fun h=>?_⟩
 · have hlt:K<args.length:=by omega
   rw[xs_D _ (K:Int) (by omega) (by omega)];have hH:=H K hlt;obtain⟨e,he⟩ : ∃ e,e=aE4 args[K]:=⟨_,rfl⟩;rw[←he] at hH
   have hsn:aBK (args.take (K+1))=aBK (args.take K)++[e]:=by rw[aFE args K hlt,aIg,he]; rfl
   obtain⟨k',op',v',tb',nm',sl',nt',ds',args'⟩:=e;refine⟨⟨by omega,by omega⟩,aA2 _,xs_k _ _ (by omega) (by omega),k',bs op',v'.1,v'.2.1,bs v'.2.2,bs tb',bs nm',sl',nt',ds',xcs args',hH,fun x24 h24=>⟨?_,fun x25 h25=>⟨args.length - (K+1),by omega,K+1,?_,by omega,rfl,?_⟩⟩⟩
   · rw[h24,aAW,aFk];simp only[List.length_cons,List.length_nil,List.length_take];omega
   · rw[i64_in _ (by omega)]; omega
   · rw[h25,h24,hsn,←aGl];simp only[Xp.cells]
 · have:K=args.length:=by omega
   subst this;rw[List.take_length]
mutual
theorem aPW : ∀ e:Xp,Fv e→FnC Tryz.prog 10 [xD e] (xD (aE4 e))
 | .mk k op v tb nm sl nt ds args,h=>by
  simp only[Fv] at h;exact aUa k op v tb nm sl nt ds args h.2.2.1 (aQk args h.2.2.2)
theorem aQk : ∀ l:List Xp,Fvs l→∀ i (h:i<l.length),FnC Tryz.prog 10 [xD l[i]] (xD (aE4 l[i]))
 | [],_,i,h=>by simp at h
 | e::l,hf,0,h=>by
  simp only[Fvs] at hf;exact aPW e hf.1
 | e::l,hf,i+1,h=>by
  simp only[Fvs] at hf;exact aQk l hf.2 i (by simpa using h)
end
theorem aKi (args:List Xp) (hn:args.length≤1000000) (H : ∀ i (h:i<args.length),FnC Tryz.prog 12 [xD args[i]] (.tup [xD (aBb args[i]).1,bD (aBb args[i]).2])) (K:Nat) (hlt:K<args.length) :
 ∃ (k':Int) (op':List UInt8) (v':V3) (tb' nm':List UInt8) (sl':Int) (nt' ds':Bool) (args':List Xp) (b:Bool),FnC Tryz.prog 12 [xD args[K]] (.tup [xD (.mk k' op' v' tb' nm' sl' nt' ds' args'),bD b])∧aAA (args.take (K+1))=((aAA (args.take K)).1++[.mk k' op' v' tb' nm' sl' nt' ds' args'],(aAA (args.take K)).2&&b):=by
 have hH:=H K hlt;obtain⟨e,he⟩ : ∃ e,e=aBb args[K]:=⟨_,rfl⟩;rw[←he] at hH
 have hsn:aAA (args.take (K+1))=((aAA (args.take K)).1++[e.1],(aAA (args.take K)).2&&e.2):=by rw[aFE args K hlt,aGM,he]; simp[aAA]
 obtain⟨⟨k',op',v',tb',nm',sl',nt',ds',args'⟩,b⟩:=e;exact⟨k',op',v',tb',nm',sl',nt',ds',args',b,hH,hsn⟩
theorem aQ8 (k:Int) (op:List UInt8) (v:V3) (tb nm:List UInt8) (sl:Int) (nt ds:Bool) (args:List Xp) (hnm:Sm nm) (hn:args.length≤1000000) (H : ∀ i (h:i<args.length),FnC Tryz.prog 12 [xD args[i]] (.tup [xD (aBb args[i]).1,bD (aBb args[i]).2])) :
 FnC Tryz.prog 12 [xD (.mk k op v tb nm sl nt ds args)] (.tup [xD (aBb (.mk k op v tb nm sl nt ds args)).1,bD (aBb (.mk k op v tb nm sl nt ds args)).2]):=by
 have loop : ∀ (n:Nat) (good:Bool) (rows:List (List CV)) (i:Int),(∃ K:Nat,i=K∧K≤args.length∧n=args.length - K∧rows=xcs (aAA (args.take K)).1∧good=(aAA (args.take K)).2)→True:=fun _ _ _ _ _=>trivial;unfold Sm at hnm;unfold aBb;by_cases hk:k=2
 · have hcut:(bs nm).extract (if decide (((bs nm).size:Int)<1) then ((bs nm).size:Int) else (1:Int)).toNat (((bs nm).size:Int)).toNat=bs (nm.drop (min 1 nm.length)):=by
    rw[aAg,aAT]
    congr 1
    by_cases h1:nm.length<1
    · have:nm=[]:=List.length_eq_zero_iff.1 (by omega)
      subst this;rfl
    · have : ¬ ((nm.length:Int)<1):=by omega
      simp only[this,decide_false,Bool.false_eq_true,if_false]
      have e1:min 1 nm.length=1:=by omega
      simp[e1]
   have hrd:=aCs (nm.drop (min 1 nm.length)) (by unfold Sz; rw[List.length_drop]; omega);rw[←hcut] at hrd;by_cases hb:aCM nm
   · rw[if_pos ⟨hk,hb⟩];unfold xD;simp only[Xp.cells];refine w12 k (bs op) v.1 v.2.1 (bs v.2.2) (bs tb) (bs nm) sl nt ds (xcs args) ⟨fun _=>?_,fun h=>absurd hk h⟩;refine⟨?_,_,_,hrd,fun _=>rfl,fun h=>absurd ?_ h⟩
     · rw[aAg];by_cases h1:((nm.length:Int)<1)
       · simp only[h1,decide_true,if_true]; omega
       · simp only[h1,decide_false,Bool.false_eq_true,if_false]; omega
     · exact or_assoc.2 hb
   · rw[if_neg (fun e=>hb e.2),if_pos hk];unfold xD;simp only[Xp.cells];refine w12 k (bs op) v.1 v.2.1 (bs v.2.2) (bs tb) (bs nm) sl nt ds (xcs args) ⟨fun _=>?_,fun h=>absurd hk h⟩;refine⟨?_,_,_,hrd,fun h=>absurd ?_ hb,fun _=>?_⟩
     · rw[aAg];by_cases h1:((nm.length:Int)<1)
       · simp only[h1,decide_true,if_true]; omega
       · simp only[h1,decide_false,Bool.false_eq_true,if_false]; omega
     · exact or_assoc.1 (by assumption)
     rw[aAW];refine⟨fun good rows i n=>∃ K:Nat,i=K∧K≤args.length∧n=args.length - K∧rows=xcs (aAA (args.take K)).1∧good=(aAA (args.take K)).2,⟨_,0,rfl,by omega,rfl,rfl,rfl⟩,?_⟩;rintro n good rows i ⟨K,rfl,hK,rfl,rfl,rfl⟩;refine⟨fun h=>?_,fun h=>?_⟩
     · have hlt:K<args.length:=by omega
       rw[xs_D _ (K:Int) (by omega) (by omega)];obtain⟨k',op',v',tb',nm',sl',nt',ds',args',b,hH,hsn⟩:=aKi args hn H K hlt;refine⟨⟨by omega,by omega⟩,aA2 _,xs_k _ _ (by omega) (by omega),k',bs op',v'.1,v'.2.1,bs v'.2.2,bs tb',bs nm',sl',nt',ds',xcs args',b,hH,fun x24 h24=>⟨?_,fun x25 h25=>⟨args.length - (K+1),by omega,K+1,?_,by omega,rfl,?_,?_⟩⟩⟩
       · rw[h24,aAW,aDk];simp only[List.length_cons,List.length_nil,List.length_take];omega
       · rw[i64_in _ (by omega)]; omega
       · rw[h25,h24,hsn,←aGl];simp only[Xp.cells]
       · rw[hsn];cases (aAA (args.take K)).2 <;> rfl
     · have:K=args.length:=by omega
       subst this;rw[List.take_length];rfl
 · rw[if_neg (fun e=>hk e.1),if_neg hk];unfold xD;simp only[Xp.cells];refine w12 k (bs op) v.1 v.2.1 (bs v.2.2) (bs tb) (bs nm) sl nt ds (xcs args) ⟨fun h=>absurd h hk,fun _=>?_⟩;rw[aAW];refine⟨fun good rows i n=>∃ K:Nat,i=K∧K≤args.length∧n=args.length - K∧rows=xcs (aAA (args.take K)).1∧good=(aAA (args.take K)).2,⟨_,0,rfl,by omega,rfl,rfl,rfl⟩,?_⟩;rintro n good rows i ⟨K,rfl,hK,rfl,rfl,rfl⟩;refine⟨fun h=>?_,fun h=>?_⟩
   · have hlt:K<args.length:=by omega
     rw[xs_D _ (K:Int) (by omega) (by omega)];obtain⟨k',op',v',tb',nm',sl',nt',ds',args',b,hH,hsn⟩:=aKi args hn H K hlt;refine⟨⟨by omega,by omega⟩,aA2 _,xs_k _ _ (by omega) (by omega),k',bs op',v'.1,v'.2.1,bs v'.2.2,bs tb',bs nm',sl',nt',ds',xcs args',b,hH,fun x24 h24=>⟨?_,fun x25 h25=>⟨args.length - (K+1),by omega,K+1,?_,by omega,rfl,?_,?_⟩⟩⟩
     · rw[h24,aAW,aDk];simp only[List.length_cons,List.length_nil,List.length_take];omega
     · rw[i64_in _ (by omega)]; omega
     · rw[h25,h24,hsn,←aGl];simp only[Xp.cells]
     · rw[hsn];cases (aAA (args.take K)).2 <;> rfl
   · have:K=args.length:=by omega
     subst this;rw[List.take_length]
mutual
theorem aLM : ∀ e:Xp,Fv e→FnC Tryz.prog 12 [xD e] (.tup [xD (aBb e).1,bD (aBb e).2])
 | .mk k op v tb nm sl nt ds args,h=>by
  simp only[Fv] at h;exact aQ8 k op v tb nm sl nt ds args h.2.1.2.2 h.2.2.1 (aL8 args h.2.2.2)
theorem aL8 : ∀ l:List Xp,Fvs l→∀ i (h:i<l.length),FnC Tryz.prog 12 [xD l[i]] (.tup [xD (aBb l[i]).1,bD (aBb l[i]).2])
 | [],_,i,h=>by simp at h
 | e::l,hf,0,h=>by
  simp only[Fvs] at hf;exact aLM e hf.1
 | e::l,hf,i+1,h=>by
  simp only[Fvs] at hf;exact aL8 l hf.2 i (by simpa using h)
end
end
section
open Go.RowKit Go.IntWalk
def sc (L:List (List UInt8)):List (List CV):=L.map fun l=>[.v (.string (bs l))]
def glue (w:List UInt8):List (List UInt8)→List (List UInt8)
 | []=>[w]
 | h::t=>(w++h)::t
def aDq (p:UInt8→Bool):List UInt8→List (List UInt8)
 | []=>[[]]
 | c::r=>if p c then []::aDq p r else glue [c] (aDq p r)
theorem aHc (p:UInt8→Bool) (l:List UInt8):aDq p l≠[]:=by
 cases l with
 | nil=>simp[aDq]
 | cons c r =>
  unfold aDq;split
  · simp
  · cases aDq p r <;> simp[glue]
theorem aPd (v w:List UInt8) (L:List (List UInt8)) (h:L≠[]):glue v (glue w L)=glue (v++w) L:=by
 cases L with
 | nil=>exact absurd rfl h
 | cons a L=>simp[glue]
theorem aMT (L:List (List UInt8)) (h:L≠[]):glue [] L=L:=by
 cases L with
 | nil=>exact absurd rfl h
 | cons a L=>rfl
def SplAt (p:UInt8→Bool) (l:List UInt8) (i:Nat) (acc:List (List UInt8)) (w:List UInt8):Prop:=aDq p l=acc++glue w (aDq p (l.drop i))
theorem SplAt.start (p:UInt8→Bool) (l:List UInt8):SplAt p l 0 [] []:=by simp[SplAt,aMT _ (aHc p l)]
theorem SplAt.other {p:UInt8→Bool} {l:List UInt8} {i:Nat} {acc:List (List UInt8)} {w:List UInt8} (h:SplAt p l i acc w) (hi:i<l.length) (hc:p (l.getD i 0)=false):SplAt p l (i+1) acc (w++[l.getD i 0]):=by
 unfold SplAt at h ⊢;rw[h,aBS l i hi,aDq,hc];simp only[Bool.false_eq_true,if_false];rw[aPd _ _ _ (aHc p _)]
theorem SplAt.sep {p:UInt8→Bool} {l:List UInt8} {i:Nat} {acc:List (List UInt8)} {w:List UInt8} (h:SplAt p l i acc w) (hi:i<l.length) (hc:p (l.getD i 0)=true):SplAt p l (i+1) (acc++[w]) []:=by
 unfold SplAt at h ⊢;rw[h,aBS l i hi,aDq,hc];simp only[if_true];rw[aMT _ (aHc p _)];simp[glue]
theorem SplAt.done {p:UInt8→Bool} {l:List UInt8} {i:Nat} {acc:List (List UInt8)} {w:List UInt8} (h:SplAt p l i acc w) (hi:l.length≤i):aDq p l=acc++[w]:=by
 unfold SplAt at h;rw[h,List.drop_of_length_le hi];simp[aDq,glue]
theorem SplAt.many {p:UInt8→Bool} {l:List UInt8} {acc:List (List UInt8)} (f:Nat) : ∀ (n i:Nat),SplAt p l i acc ((l.take i).drop f)→f≤i→i+n≤l.length→(∀ j,i≤j→j<i+n→p (l.getD j 0)=false)→SplAt p l (i+n) acc ((l.take (i+n)).drop f)
 | 0,i,h,_,_,_=>h
 | n+1,i,h,hf,hl,hp=>by
  have h1:=h.other (by omega) (hp i (by omega) (by omega))
  have e:(l.take i).drop f++[l.getD i 0]=(l.take (i+1)).drop f:=by
   rw[aDx l i (by omega),List.drop_append_of_le_length (by rw[List.length_take]; omega)]
  rw[e] at h1
  have:=SplAt.many f n (i+1) h1 (by omega) (by omega) (fun j h1 h2=>hp j (by omega) (by omega))
  rwa [show i+(n+1)=i+1+n by omega]
end
section
open Go.RowKit Go.IntWalk
theorem aH1 (n:Nat):aAI (dig1 n)=true:=by
 simp only[aAI,aCV,Bool.and_eq_true,decide_eq_true_eq];omega
theorem aIM (n:Nat):(digs n).all aAI=true:=by
 induction n using Nat.strongRecOn with
 | _ n ih =>
  by_cases h:n<10
  · rw[aDU h]; simp[aH1]
  · rw[aEx h,List.all_append,ih _ (by omega)]; simp[aH1]
theorem aI1 (n:Nat):valL (digs n)=n:=by
 induction n using Nat.strongRecOn with
 | _ n ih =>
  by_cases h:n<10
  · rw[aDU h];show 10*0+((dig1 n).toNat - 48)=n;rw[aCV]; omega
  · rw[aEx h,valL,aIF,aMK]
    have:=ih (n / 10) (by omega)
    unfold valL at this;rw[this,aCV];omega
theorem aQy (n:Nat) (h0:0<n):(digs n).getD 0 0≠48:=by
 induction n using Nat.strongRecOn with
 | _ n ih =>
  by_cases h:n<10
  · rw[aDU h];intro e
    have:(dig1 n).toNat=48:=by
     have e:dig1 n=48:=e;rw[e]; rfl
    rw[aCV] at this;omega
  · rw[aEx h];have hp:=aGn (n / 10)
    have:=ih (n / 10) (by omega) (by omega)
    rw[List.getD_eq_getElem?_getD,List.getElem?_append_left hp]
    rwa [List.getD_eq_getElem?_getD] at this
theorem aQv (n:Nat):aBz (digs n)=true:=by
 simp only[aBz,aIM,Bool.true_and];by_cases h:n<10
 · rw[aDU h]; rfl
 · have hp:=aGn (n / 10)
   have h1:1<(digs n).length:=by rw[aEx h]; simp; omega
   have h2:=aQy n (by omega)
   have h3:((digs n).getD 0 0==48)=false:=by rw[beq_eq_false_iff_ne]; exact h2
   simp only[h1,h3,decide_true,Bool.not_false,Bool.and_self,Bool.or_true]
theorem aRV (n:Nat) (h:digs n=[48]):n=0:=by
 have:=aI1 n
 rw[h] at this;exact this.symm
theorem aK2 (n:Nat):(digs n).head?≠some 45:=by
 intro h;have hall:=aIM n
 cases hd:digs n with
 | nil=>rw[hd] at h; simp at h
 | cons a l =>
  rw[hd] at h hall;simp at h;subst h;simp at hall;exact absurd hall.1 (by decide)
theorem aQD (d:List UInt8):aB5 (45::d)=(if aBz d=true∧d≠[48] then (if valL d≤9223372036854775808 then (-(valL d:Int),0) else (0,9)) else (0,8)):=by
 unfold aB5;exact if_pos rfl
theorem aRC (n:Int) (h:I64 n):aB5 (numL n)=(n,0):=by
 unfold numL;by_cases hn:n<0
 · rw[if_pos hn,aQD,if_pos ⟨aQv _,fun e=>by have:=aRV _ e; omega⟩,aI1,if_pos (by omega)]
   congr 1
   omega
 · unfold aB5;rw[if_neg hn,if_neg (aK2 _),if_pos (aQv _),aI1,if_pos (by omega)]
   congr 1
   omega
end
section
open Go.RowKit Go.IntWalk
def aGV (a b:List UInt8):Bool:=aAn a==aAn b
mutual
def aFd:Xp→Xp→Bool
 | .mk k op v tb nm sl nt ds args,.mk k2 op2 v2 tb2 nm2 sl2 nt2 ds2 args2 =>
  (k==k2)&&(op==op2)&&((v.1==v2.1)&&((v.2.1==v2.2.1)&&(v.2.2==v2.2.2)))&&aGV tb tb2&&aGV nm nm2&&(sl==sl2)&&(nt==nt2)&&(ds==ds2)&&aBk args args2
def aBk:List Xp→List Xp→Bool
 | [],[]=>true
 | e::r,f::s=>aFd e f&&aBk r s
 | _,_=>false
end
theorem aIi : ∀ {a b:List Xp},aBk a b=true→a.length=b.length
 | [],[],_=>rfl
 | e::r,f::s,h=>by
  simp only[aBk,Bool.and_eq_true] at h;simp[aIi h.2]
 | [],_::_,h=>by simp[aBk] at h
 | _::_,[],h=>by simp[aBk] at h
theorem aKg : ∀ {a b:List Xp},aBk a b=true→∀ i (h1:i<a.length) (h2:i<b.length),aFd a[i] b[i]=true
 | e::r,f::s,h,0,_,_=>by
  simp only[aBk,Bool.and_eq_true] at h;exact h.1
 | e::r,f::s,h,i+1,h1,h2=>by
  simp only[aBk,Bool.and_eq_true] at h;exact aKg h.2 i (by simpa using h1) (by simpa using h2)
 | [],_,_,_,h1,_=>by simp at h1
 | _::_,[],_,_,_,h2=>by simp at h2
theorem aJO : ∀ {a b:List Xp},a.length=b.length→(∀ i (h1:i<a.length) (h2:i<b.length),aFd a[i] b[i]=true)→aBk a b=true
 | [],[],_,_=>rfl
 | e::r,f::s,hl,h=>by
  simp only[aBk,Bool.and_eq_true];exact⟨h 0 (by simp) (by simp),aJO (by simpa using hl) fun i h1 h2=>h (i+1) (by simpa using h1) (by simpa using h2)⟩
 | [],_::_,hl,_=>by simp at hl
 | _::_,[],hl,_=>by simp at hl
theorem aOB (a b:List UInt8) (ha:Sm a) (hb:Sm b):FnC Tryz.prog 24 [sD a,sD b] (bD (aGV a b)):=by
 refine w24 (bs a) (bs b) ⟨_,aAL a ha.sz,_,aAL b hb.sz,?_⟩;rw[aAh,aAh];rfl
theorem aSl (args args2:List Xp) (hn:args.length≤1000000) (hn2:args2.length≤1000000) (H : ∀ i (h1:i<args.length) (h2:i<args2.length),FnC Tryz.prog 9 [xD args[i],xD args2[i]] (bD (aFd args[i] args2[i]))) :
 FnC Tryz.prog 26 [.c (.vs (xcs args)),.c (.vs (xcs args2)),.c (.v (.func (.func 9) #[] #[]))] (bD (aBk args args2)):=by
 refine aVG (xcs args) (xcs args2) ?_;rw[aAW,aAW];refine⟨fun h=>?_,fun h=>?_⟩
 · have:aBk args args2=false:=by
    cases h2:aBk args args2
    · rfl
    · have:=aIi h2
      omega
   rw[this]
 have hlen:args.length=args2.length:=by omega
 refine⟨fun i n=>∃ K:Nat,i=K∧K≤args.length∧n=args.length - K∧∀ q (h1:q<args.length) (h2:q<args2.length),q<K→aFd args[q] args2[q]=true,⟨_,0,rfl,by omega,rfl,fun q _ _ h=>by omega⟩,?_⟩;rintro n i ⟨K,rfl,hK,rfl,hd⟩;refine⟨fun h=>?_,fun h=>?_⟩
 · have hlt:K<args.length:=by omega
   have hlt2:K<args2.length:=by omega
   rw[xs_D _ (K:Int) (by omega) (by omega),xs_D _ (K:Int) (by omega) (by omega)];have hH:=H K hlt hlt2;refine⟨⟨by omega,by omega⟩,aA2 _,xs_k _ _ (by omega) (by omega),⟨by omega,by omega⟩,aA2 _,xs_k _ _ (by omega) (by omega),_,hH,fun hb=>?_,fun hb=>?_⟩
   · have:aBk args args2=false:=by
      cases h2:aBk args args2
      · rfl
      · exact absurd (aKg h2 K hlt hlt2) hb
     rw[this]
   · have hb:=Classical.byContradiction hb;refine⟨args.length - (K+1),by omega,K+1,?_,by omega,rfl,fun q h1 h2 h3=>?_⟩
     · rw[i64_in _ (by omega)]; omega
     · by_cases e:q=K
       · subst e;exact hb
       · exact hd q h1 h2 (by omega)
 · have:K=args.length:=by omega
   subst this;rw[aJO hlen fun q h1 h2=>hd q h1 h2 h1]
theorem aSY (k:Int) (op:List UInt8) (v:V3) (tb nm:List UInt8) (sl:Int) (nt ds:Bool) (args:List Xp) (k2:Int) (op2:List UInt8) (v2:V3) (tb2 nm2:List UInt8) (sl2:Int) (nt2 ds2:Bool) (args2:List Xp)
 (h1:Sm tb∧Sm nm) (h2:Sm tb2∧Sm nm2) (hn:args.length≤1000000) (hn2:args2.length≤1000000) (H : ∀ i (h1:i<args.length) (h2:i<args2.length),FnC Tryz.prog 9 [xD args[i],xD args2[i]] (bD (aFd args[i] args2[i]))) :
 FnC Tryz.prog 9 [xD (.mk k op v tb nm sl nt ds args),xD (.mk k2 op2 v2 tb2 nm2 sl2 nt2 ds2 args2)] (bD (aFd (.mk k op v tb nm sl nt ds args) (.mk k2 op2 v2 tb2 nm2 sl2 nt2 ds2 args2))):=by
 unfold xD;simp only[Xp.cells];refine w9 k (bs op) v.1 v.2.1 (bs v.2.2) (bs tb) (bs nm) sl nt ds (xcs args) k2 (bs op2) v2.1 v2.2.1 (bs v2.2.2) (bs tb2) (bs nm2) sl2 nt2 ds2 (xcs args2) ?_;refine⟨aGV tb tb2,fun _=>aOB _ _ h1.1 h2.1,aGV nm nm2,fun _=>aOB _ _ h1.2 h2.2,aBk args args2,fun _=>aSl args args2 hn hn2 H,?_⟩;rw[aAh,aAh,aAh,aAh];unfold aFd
 congr 4
 cases (k==k2) <;> cases (op==op2) <;> cases (v.1==v2.1) <;> cases (v.2.1==v2.2.1) <;> cases (v.2.2==v2.2.2) <;> cases aGV tb tb2 <;> cases aGV nm nm2 <;> cases (sl==sl2) <;> cases (nt==nt2) <;> cases (ds==ds2) <;> cases aBk args args2 <;> rfl
theorem Fvs.at2 : ∀ {l:List Xp},Fvs l→∀ i (h:i<l.length),Fv l[i]
 | e::l,hf,0,h=>by
  simp only[Fvs] at hf;exact hf.1
 | e::l,hf,i+1,h=>by
  simp only[Fvs] at hf;exact Fvs.at2 hf.2 i (by simpa using h)
 | [],_,i,h=>by simp at h
mutual
theorem aSK : ∀ a b:Xp,Fv a→Fv b→FnC Tryz.prog 9 [xD a,xD b] (bD (aFd a b))
 | .mk k op v tb nm sl nt ds args,.mk k2 op2 v2 tb2 nm2 sl2 nt2 ds2 args2,h,h2=>by
  simp only[Fv] at h h2;exact aSY _ _ _ _ _ _ _ _ _ _ _ _ _ _ _ _ _ _ h.2.1.2 h2.2.1.2 h.2.2.1 h2.2.2.1 (fun i i1 i2=>aPZ args h.2.2.2 i i1 args2[i] (Fvs.at2 h2.2.2.2 i i2))
theorem aPZ : ∀ l:List Xp,Fvs l→∀ i (h:i<l.length) (b:Xp),Fv b→FnC Tryz.prog 9 [xD l[i],xD b] (bD (aFd l[i] b))
 | [],_,i,h,_,_=>by simp at h
 | e::l,hf,0,h,b,hb=>by
  simp only[Fvs] at hf;exact aSK e b hf.1 hb
 | e::l,hf,i+1,h,b,hb=>by
  simp only[Fvs] at hf;exact aPZ l hf.2 i (by simpa using h) b hb
end
end
section
open Go.RowKit Go.IntWalk
theorem aS6 {c d:UInt8} (hd:d.toNat<65) (h:low c=d):c=d:=by
 unfold low at h;split at h
 · rename_i h1;subst h;exfalso;have a1:=UInt8.le_iff_toNat_le.1 h1.1;have a2:=UInt8.le_iff_toNat_le.1 h1.2;rw[UInt8.toNat_add] at hd;have b1:(65:UInt8).toNat=65:=rfl;have b2:(90:UInt8).toNat=90:=rfl;have b3:(32:UInt8).toNat=32:=rfl;omega
 · exact h
theorem aM3 : ∀ {r d:List UInt8},(∀ c∈d,c.toNat<65)→aAn r=d→r=d
 | [],[],_,_=>rfl
 | c::r,x::d,hd,h=>by
  have h1:low c::aAn r=x::d:=h;injection h1 with h1 h2;rw[aS6 (hd x (by simp)) h1,aM3 (fun y hy=>hd y (by simp[hy])) h2]
 | [],_::_,_,h=>by cases h
 | _::_,[],_,h=>by cases h
theorem aJJ (n:Int) : ∀ c∈numL n,c.toNat<65:=by
 have key : ∀ m,∀ c∈digs m,c.toNat<65:=fun m c hc=>by
  have:=List.all_eq_true.1 (aIM m) c hc
  unfold aAI at this;simp at this;omega
 intro c hc;unfold numL at hc;split at hc
 · rcases List.mem_cons.1 hc with rfl | hc
   · decide
   · exact key _ c hc
 · exact key _ c hc
theorem aJ6 : ∀ {d:List UInt8},(∀ c∈d,c.toNat<65)→aAn d=d
 | [],_=>rfl
 | x::d,hd=>by
  show low x::aAn d=x::d;rw[aJ6 fun y hy=>hd y (by simp[hy])];have h1:=hd x (by simp)
  have:low x=x:=by
   unfold low;split
   · rename_i h2;exfalso;have a1:=UInt8.le_iff_toNat_le.1 h2.1;have b1:(65:UInt8).toNat=65:=rfl;omega
   · rfl
  rw[this]
theorem aIs {sl:Int} {nm:List UInt8} (h:aGV (120::numL sl) nm=true) (hsl:I64 sl):aF1 nm=(sl,0):=by
 unfold aGV at h
 have h:aAn (120::numL sl)=aAn nm:=by simpa using h
 have h1:aAn (120::numL sl)=120::numL sl:=by
  show low 120::aAn (numL sl)=_;rw[aJ6 (aJJ sl)];rfl
 rw[h1] at h
 cases nm with
 | nil=>cases h
 | cons c r =>
  have h2:120::numL sl=low c::aAn r:=h;injection h2 with h3 h4
  have:=aM3 (aJJ sl) h4.symm
  subst this;unfold aF1
  have e:min 1 (c::numL sl).length=1:=by simp only[List.length_cons]; omega
  rw[e];exact aRC sl hsl
theorem aT5 {k:Int} (hk:k≠2) (op:List UInt8) (v:V3) (sl sl':Int) (nt ds:Bool) (X:List (V3×Int)) (row:List V3):topV k op v sl nt ds X row=topV k op v sl' nt ds X row:=by
 unfold topV aOa;simp only[if_neg hk]
theorem aMR {k:Int} {op:List UInt8} {v:V3} {tb nm:List UInt8} {sl:Int} {nt ds:Bool} {args:List Xp} {k2:Int} {op2:List UInt8} {v2:V3} {tb2 nm2:List UInt8} {sl2:Int} {nt2 ds2:Bool} {args2:List Xp}
 (h:aFd (.mk k op v tb nm sl nt ds args) (.mk k2 op2 v2 tb2 nm2 sl2 nt2 ds2 args2)=true):k2=k∧op2=op∧v2=v∧aGV nm nm2=true∧sl2=sl∧nt2=nt∧ds2=ds∧aBk args args2=true:=by
 simp only[aFd,Bool.and_eq_true,beq_iff_eq] at h;obtain⟨⟨⟨⟨⟨⟨⟨⟨h1,h2⟩,h3,h4,h5⟩,h6⟩,h7⟩,h8⟩,h9⟩,h10⟩,h11⟩:=h;refine⟨h1.symm,h2.symm,?_,h7,h8.symm,h9.symm,h10.symm,h11⟩;obtain⟨a,b,c⟩:=v;obtain⟨a2,b2,c2⟩:=v2;simp only at h3 h4 h5;rw[h3,h4,h5]
theorem aHW {op:List UInt8} {v:V3} {tb nm:List UInt8} {sl:Int} {nt ds:Bool} {args:List Xp} (h:aCM nm):aBb (.mk 2 op v tb nm sl nt ds args)=(.mk 2 op v tb nm sl nt ds args,false):=by
 rw[aBb,if_pos ⟨rfl,h⟩]
theorem aHf {op:List UInt8} {v:V3} {tb nm:List UInt8} {sl:Int} {nt ds:Bool} {args:List Xp} (h : ¬ aCM nm):aBb (.mk 2 op v tb nm sl nt ds args)=(.mk 2 op v tb nm (aF1 nm).1 nt ds (aAA args).1,(aAA args).2):=by
 rw[aBb,if_neg (fun e=>h e.2),if_pos rfl]
theorem aF8 {k:Int} {op:List UInt8} {v:V3} {tb nm:List UInt8} {sl:Int} {nt ds:Bool} {args:List Xp} (h:k≠2):aBb (.mk k op v tb nm sl nt ds args)=(.mk k op v tb nm sl nt ds (aAA args).1,(aAA args).2):=by
 rw[aBb,if_neg (fun e=>h e.1),if_neg h]
mutual
theorem aM1 (row:List V3) : ∀ e y:Xp,Fv e→aFd (aE4 (aBm e)) y=true→evX row (aBb (aBm e)).1=evX row (aBb y).1
 | .mk k op v tb nm sl nt ds args,.mk k2 op2 v2 tb2 nm2 sl2 nt2 ds2 args2,hf,h=>by
  simp only[Fv] at hf;unfold aBm at h ⊢;by_cases hk:k=2
  · rw[if_pos hk] at h ⊢;unfold aE4 at h;obtain⟨rfl,rfl,rfl,hn,rfl,rfl,rfl,ha⟩:=aMR h
    have h0:args2=[]:=by
     cases args2 with
     | nil=>rfl
     | cons _ _=>simp[aBK,aBk] at ha
    subst h0;have s1:=aIs (nm:=120::numL sl) (by unfold aGV; simp) hf.1.2.2;have s2:=aIs hn hf.1.2.2
    have hb:aCM (120::numL sl)↔aCM nm2:=by unfold aCM; rw[s1,s2]
    by_cases hbd:aCM nm2
    · rw[aHW (hb.2 hbd),aHW hbd,evX,evX]
    · rw[aHf (fun e=>hbd (hb.1 e)),aHf hbd,s1,s2,evX,evX]
  · rw[if_neg hk] at h ⊢;unfold aE4 at h;obtain⟨rfl,rfl,rfl,hn,rfl,rfl,rfl,ha⟩:=aMR h;rw[aF8 hk,aF8 hk,evX,evX,aKq row args args2 hf.2.2.2 ha];exact aT5 hk _ _ _ _ _ _ _ _
theorem aKq (row:List V3) : ∀ l m:List Xp,Fvs l→aBk (aBK (aA8 l)) m=true→evXs row (aAA (aA8 l)).1=evXs row (aAA m).1
 | [],[],_,_=>rfl
 | e::l,y::m,hf,h=>by
  simp only[Fvs] at hf;simp only[aA8,aBK,aBk,Bool.and_eq_true] at h;simp only[aA8,aAA,evXs];rw[aM1 row e y hf.1 h.1,aKq row l m hf.2 h.2]
 | [],_::_,_,h=>by simp[aA8,aBK,aBk] at h
 | _::_,[],_,h=>by simp[aA8,aBK,aBk] at h
end
mutual
theorem aNw : ∀ e:Xp,Fv e→Fv (aBm e)
 | .mk k op v tb nm sl nt ds args,h=>by
  simp only[Fv] at h;unfold aBm;split
  · simp only[Fv];refine⟨⟨aAm 2 (by decide),aAC,aAm 0 (by decide)⟩,⟨aAO,aAO,?_⟩,by simp,trivial⟩
    have:=aDb sl h.1.2.2
    unfold Sm;rw[List.length_cons];omega
  · simp only[Fv];exact⟨h.1,h.2.1,by rw[aEI]; exact h.2.2.1,aJ1 args h.2.2.2⟩
theorem aJ1 : ∀ l:List Xp,Fvs l→Fvs (aA8 l)
 | [],_=>trivial
 | e::l,h=>by
  simp only[Fvs] at h;simp only[aA8,Fvs];exact⟨aNw e h.1,aJ1 l h.2⟩
end
mutual
theorem aOv : ∀ e:Xp,Fv e→Fv (aE4 e)
 | .mk k op v tb nm sl nt ds args,h=>by
  simp only[Fv] at h;unfold aE4;simp only[Fv];exact⟨⟨h.1.1,h.1.2.1,aAm 0 (by decide)⟩,h.2.1,by rw[aFk]; exact h.2.2.1,aMt args h.2.2.2⟩
theorem aMt : ∀ l:List Xp,Fvs l→Fvs (aBK l)
 | [],_=>trivial
 | e::l,h=>by
  simp only[Fvs] at h;simp only[aBK,Fvs];exact⟨aOv e h.1,aMt l h.2⟩
end
mutual
theorem aJe : ∀ e:Xp,Fv e→Fv (aBb e).1
 | .mk k op v tb nm sl nt ds args,h=>by
  have h0:=h;simp only[Fv] at h;unfold aBb;split
  · exact h0
  · simp only[Fv];refine⟨⟨h.1.1,h.1.2.1,?_⟩,h.2.1,by rw[aDk]; exact h.2.2.1,aJE args h.2.2.2⟩;split
    · unfold aF1;exact aD6 _
    · exact h.1.2.2
theorem aJE : ∀ l:List Xp,Fvs l→Fvs (aAA l).1
 | [],_=>trivial
 | e::l,h=>by
  simp only[Fvs] at h;simp only[aAA,Fvs];exact⟨aJe e h.1,aJE l h.2⟩
end
end
section
open Go.RowKit Go.IntWalk
theorem aIf (e:Xp) : ∃ k op v0 v1 v2 tb nm sl nt ds args,e = .mk k op (v0,v1,v2) tb nm sl nt ds args:=by
 obtain⟨k,op,⟨v0,v1,v2⟩,tb,nm,sl,nt,ds,args⟩:=e;exact⟨_,_,_,_,_,_,_,_,_,_,_,rfl⟩
theorem aPy (l':List Tok) (t:Tok):(tc (l'++[t])).getD l'.length []=t.cells:=by
 unfold tc;rw[List.map_append,List.getD_eq_getElem?_getD,List.getElem?_append_right (by simp)]
 simp
set_option maxHeartbeats 4000000 in
theorem walkWords (e:Xp) (row:List V3) (hf:Fv e) (hp:plX (aBm e)≤1000000000) (hr : ∀ v∈row,Vs v):FnC Tryz.prog 3 [xD e,.c (.vs (vc row))] (bD true):=by
 have hfx:=aNw e hf;obtain⟨t,ht,hpr⟩:=aPS (aBm e) hfx hp;have hdp:=aQw e hf;have hnm:=aQC e hf;have hof:=aVW t (by omega);have hsc:=aQp t (by omega);have hbr:=aPW (aBm e) hfx;have hfy:=aVq t;have hsm:=aSK (aE4 (aBm e)) (ofR t).1 (aOv _ hfx) hfy;have hsx:=aLM (aBm e) hfx;have hsy:=aLM (ofR t).1 hfy;have hzx:=aRZ row hr (aBb (aBm e)).1 (aJe _ hfx);have hzy:=aRZ row hr (aBb (ofR t).1).1 (aJe _ hfy);have hev:=aM1 row e (ofR t).1 hf;have hok:=@aUL t;have hrd:=aTl;obtain⟨dp,hdpe⟩ : ∃ dp,dp=aFc e:=⟨_,rfl⟩;rw[←hdpe] at hdp;clear hdpe hf hp hr hfx hfy ht;generalize aBb (aBm e)=z2 at hsx hzx hev;generalize aE4 (aBm e)=b at hbr hsm hev;generalize aBm e=x at hpr hnm hbr hsx;generalize ofR t=y at hof hsm hsy hzy hev hok;obtain⟨y,n,no⟩:=y;simp only at hof hsm hsy hzy hev hok;generalize aBb y=z at hsy hzy hev;obtain⟨z2,g2⟩:=z2;obtain⟨z,g⟩:=z;simp only at hsx hzx hsy hzy hev;unfold EvR at hzx hzy;generalize aFd b y=sm at hsm hev;generalize evX row z2=r2 at hzx hev;generalize evX row z=r at hzy hev;obtain⟨e0,e1,e2,e3,e4,e5,e6,e7,e8,e9,e10,rfl⟩:=aIf e;obtain⟨x0,x1,x2,x3,x4,x5,x6,x7,x8,x9,x10,rfl⟩:=aIf x;obtain⟨y0,y1,y2,y3,y4,y5,y6,y7,y8,y9,y10,rfl⟩:=aIf y;obtain⟨b0,b1,b2,b3,b4,b5,b6,b7,b8,b9,b10,rfl⟩:=aIf b;obtain⟨u0,u1,u2,u3,u4,u5,u6,u7,u8,u9,u10,rfl⟩:=aIf z;obtain⟨a0,a1,a2,a3,a4,a5,a6,a7,a8,a9,a10,rfl⟩:=aIf z2;obtain⟨⟨r0,r1,r2'⟩,rn⟩:=r;obtain⟨⟨s0,s1,s2⟩,sn⟩:=r2;unfold tupE at hzx hzy;unfold xD at hdp hnm hpr hbr hsx hof hsm hsy hzx hzy ⊢;simp only[Xp.cells] at hdp hnm hpr hbr hsx hof hsm hsy hzx hzy ⊢;refine w3 e0 (bs e1) e2 e3 (bs e4) (bs e5) (bs e6) e7 e8 e9 (xcs e10) (vc row) ⟨dp,fun _=>hdp,fun _=>⟨true,hrd,rfl⟩,fun _=>?_⟩;refine⟨_,_,_,_,_,_,_,_,_,_,_,hnm,_,hpr,_,_,_,_,_,_,_,_,_,_,_,_,_,hof,_,_,_,_,_,_,_,_,_,_,_,fun _=>hbr,sm,fun _=>hsm,fun _=>⟨true,hrd,rfl⟩,fun hc=>?_⟩;have hno:no=0:=Classical.byContradiction fun h=>hc (.inl h);have hsm':sm=true:=Classical.byContradiction fun h=>hc (.inr h);subst hno;have h0:=hok rfl;obtain⟨l',hl'⟩:=aPC h0;have hev:=hev hsm';injection hev with e1' e2';injection e1' with e3' e4';injection e4' with e5' e6';subst e2' e3' e5' e6';rw[h0,hl'] at hsc
 have hlen:((tc (l'++[⟨0,[],nul,(t.length:Int)⟩])).length:Int)=l'.length+1:=by rw[aFT,List.length_append]; simp
 have hlb:l'.length≤4097:=by
  have:=(aBT t).1.1
  rw[hl',List.length_append] at this;omega
 have hw:IntKind.wrap .i64 (((tc (l'++[⟨0,[],nul,(t.length:Int)⟩])).length:Int) - 1)=l'.length:=by rw[hlen,i64_in _ (by omega)]; omega
 refine⟨_,_,_,hsc,fun _=>?_,fun _=>aVK _,fun _=>?_,fun hbad=>?_,fun _=>?_⟩
 · rw[hw,hlen];exact⟨by omega,by omega⟩
 · rw[hw,Int.toNat_natCast,aPy];rfl
 · exfalso;rcases hbad with (h | h) | h
   · exact h rfl
   · rw[hlen] at h;omega
   · apply h;rw[hw];unfold aAa;rw[Int.toNat_natCast,aPy];rfl
 refine⟨_,_,_,_,_,_,_,_,_,_,_,_,hsy,fun _=>⟨true,hrd,rfl⟩,fun _=>?_⟩;refine⟨_,_,_,_,_,_,_,_,_,_,_,_,hsx,fun _=>⟨true,hrd,rfl⟩,fun _=>?_⟩;refine⟨_,_,_,_,hzx,_,_,_,_,hzy,true,fun _=>hrd,?_⟩
 simp
end
section
open Go.RowKit Go.ChangeShapes Go.WideShapes Go.IntWalk
mutual
def Xw:Xp→Nat
 | .mk k op v tb nm sl nt ds args=>Xws args+8+op.length+v.2.2.length+tb.length+nm.length
def Xws:List Xp→Nat
 | []=>0
 | e::r=>Xw e+Xws r
end
section
variable {H:Type} {enc:TypeId×Value→H} {P:Program} {W:World}
theorem aId {t:TypeId} {f0 f1 f2:Field} (ht:P.underlying t=some (.struct #[f0,f1,f2])) (ct:P.cellsOf t=3) (o0:f0.offset=0) (o1:f1.offset=1) (o2:f2.offset=2)
 (c0:P.cellsOf f0.type=1) (c1:P.cellsOf f1.type=1) (c2:P.cellsOf f2.type=1) (h0:P.underlying f0.type=some (.int .i64)) (h1:P.underlying f1.type=some (.int .i64)) (h2:P.underlying f2.type=some .string)
 (n:Nat) (cs:List Value) (x:DataW H×List MemPlace) (h:DataW.trod enc P W 0 (fun _=>true) true n t cs=some x) :
 ∃ el:List CV,CVRs W (fun _=>False) el cs∧∃ v:V3,el=[.v (.int .i64 v.1),.v (.int .i64 v.2.1),.v (.string (bs v.2.2))]∧I64 v.1∧I64 v.2.1∧(v.2.2.length≤maxLen∧v.2.2.length≤Rows.uptoBulk x.1):=by
 obtain⟨xs,k,hx1,hx2,hl,hxl,hf⟩:=DataW.trod_struct ht h;rw[ct] at hl
 match cs,hl,xs,hxl with
 | [a,b,c],_,[y0,y1,y2],_ =>
  have g0:=hf 0 f0 rfl;have g1:=hf 1 f1 rfl;have g2:=hf 2 f2 rfl;simp[o0,o1,o2,c0,c1,c2] at g0 g1 g2;obtain⟨z0,e0,_,w0⟩:=DataW.trod_int h0 g0;obtain⟨z1,e1,_,w1⟩:=DataW.trod_int h1 g1;obtain⟨s,e2,hy2,w2⟩:=DataW.trod_string h2 g2;simp only[List.cons.injEq,and_true] at e0 e1 e2;subst e0 e1 e2;refine⟨[.v (.int .i64 z0),.v (.int .i64 z1),.v (.string s)],?_,(z0,z1,s.data.toList),?_,aMX w0,aMX w1,?_⟩
  · simp only[CVRs];exact⟨.v _ rfl,.v _ rfl,.v _ rfl,trivial⟩
  · show _=[_,_,CV.v (.string (bs s.data.toList))];rw[←aNH s]
  · subst hx2 hy2;refine⟨w2,?_⟩;show s.data.toList.length≤_;simp only[List.map_cons,List.map_nil,Rows.uptoBulk,Rows.uptoBulkAll];omega
theorem aPO : ∀ {els:List (List CV)} {ds:List (DataW H)} (_:ds.length=els.length) (_ : ∀ (i:Nat) (el:List CV) (d:DataW H),els[i]? = some el→ds[i]? = some d→∃ e:Xp,el=e.cells∧Xi e∧Xw e≤Rows.uptoBulk d),
 ∃ l:List Xp,els=xcs l∧Xis l∧Xws l≤Rows.uptoBulkAll ds
 | [],ds,_,_=>⟨[],rfl,trivial,by simp[Xws]⟩
 | el::els,d::ds,hl,h=>by
  obtain⟨e,h1,h2,h3⟩:=h 0 el d rfl rfl;obtain⟨l,g1,g2,g3⟩:=aPO (els:=els) (ds:=ds) (by simpa using hl) fun i el' d' h4 h5=>h (i+1) el' d' (by simpa using h4) (by simpa using h5);refine⟨e::l,by rw[xcs,h1,g1],⟨h2,g2⟩,?_⟩;simp only[Xws,Rows.uptoBulkAll]; omega
 | _::_,[],hl,_=>by simp at hl
theorem aPP {t:TypeId} {f0 f1 f2 f3 f4 f5 f6 f7 f8 v0 v1 v2:Field} (ht:P.underlying t=some (.struct #[f0,f1,f2,f3,f4,f5,f6,f7,f8])) (ct:P.cellsOf t=11)
 (o0:f0.offset=0) (o1:f1.offset=1) (o2:f2.offset=2) (o3:f3.offset=5) (o4:f4.offset=6) (o5:f5.offset=7) (o6:f6.offset=8) (o7:f7.offset=9) (o8:f8.offset=10)
 (c0:P.cellsOf f0.type=1) (c1:P.cellsOf f1.type=1) (c2:P.cellsOf f2.type=3) (c3:P.cellsOf f3.type=1) (c4:P.cellsOf f4.type=1) (c5:P.cellsOf f5.type=1) (c6:P.cellsOf f6.type=1) (c7:P.cellsOf f7.type=1) (c8:P.cellsOf f8.type=1)
 (h0:P.underlying f0.type=some (.int .i64)) (h1:P.underlying f1.type=some .string) (h2:P.underlying f2.type=some (.struct #[v0,v1,v2])) (h3:P.underlying f3.type=some .string) (h4:P.underlying f4.type=some .string)
 (h5:P.underlying f5.type=some (.int .i64)) (h6:P.underlying f6.type=some .bool) (h7:P.underlying f7.type=some .bool) (h8:P.underlying f8.type=some (.slice t))
 (p0:v0.offset=0) (p1:v1.offset=1) (p2:v2.offset=2) (q0:P.cellsOf v0.type=1) (q1:P.cellsOf v1.type=1) (q2:P.cellsOf v2.type=1) (u0:P.underlying v0.type=some (.int .i64)) (u1:P.underlying v1.type=some (.int .i64)) (u2:P.underlying v2.type=some .string) :
 ∀ (n:Nat) (cs:List Value) (x:DataW H×List MemPlace),DataW.trod enc P W 0 (fun _=>true) true n t cs=some x→∃ e:Xp,CVRs W (fun _=>False) e.cells cs∧Xi e∧Xw e≤Rows.uptoBulk x.1:=by
 intro n
 induction n using Nat.strongRecOn with
 | _ n ih =>
  intro cs x h;obtain⟨xs,k,hk,rfl,hl,hxl,hf⟩:=DataW.trod_struct ht h;rw[ct] at hl
  match cs,hl,xs,hxl with
  | [a0,a1,a2,a3,a4,a5,a6,a7,a8,a9,a10],_,[y0,y1,y2,y3,y4,y5,y6,y7,y8],_ =>
   have g0:=hf 0 f0 rfl;have g1:=hf 1 f1 rfl;have g2:=hf 2 f2 rfl;have g3:=hf 3 f3 rfl;have g4:=hf 4 f4 rfl;have g5:=hf 5 f5 rfl;have g6:=hf 6 f6 rfl;have g7:=hf 7 f7 rfl;have g8:=hf 8 f8 rfl;simp[o0,o1,o2,o3,o4,o5,o6,o7,o8,c0,c1,c2,c3,c4,c5,c6,c7,c8] at g0 g1 g2 g3 g4 g5 g6 g7 g8;obtain⟨z0,e0,hy0,w0⟩:=DataW.trod_int h0 g0;obtain⟨s1,e1,hy1,w1⟩:=DataW.trod_string h1 g1;obtain⟨el,l2,v,rfl,i0,i1,i2⟩:=aId h2 c2 p0 p1 p2 q0 q1 q2 u0 u1 u2 _ _ _ g2;obtain⟨s3,e3,hy3,w3⟩:=DataW.trod_string h3 g3;obtain⟨s4,e4,hy4,w4⟩:=DataW.trod_string h4 g4;obtain⟨z5,e5,hy5,w5⟩:=DataW.trod_int h5 g5;obtain⟨b6,e6,hy6⟩:=DataW.trod_bool h6 g6;obtain⟨b7,e7,hy7⟩:=DataW.trod_bool h7 g7
   obtain⟨els,ds,l8,n8,hd,hQ,hbk⟩:=aFQ h8 (by omega) (fun el d=>∃ e:Xp,el=e.cells∧Xi e∧Xw e≤Rows.uptoBulk d) (fun m hm cs' y hy=>by
    obtain⟨e,r1,r2,r3⟩:=ih m (by omega) cs' y hy;exact⟨e.cells,r1,e,rfl,r2,r3⟩) g8
   obtain⟨args,rfl,xi,xn⟩:=aPO hd hQ;simp only[List.cons.injEq,and_true] at e0 e1 e3 e4 e5 e6 e7;subst e0 e1 e3 e4 e5 e6 e7;refine⟨.mk z0 s1.data.toList v s3.data.toList s4.data.toList z5 b6 b7 args,?_,?_,?_⟩
   · simp only[CVRs] at l2;obtain⟨m1,m2,m3,_⟩:=l2;simp only[Xp.cells,CVRs];exact⟨.v _ rfl,by rw[←aNH s1]; exact .v _ rfl,m1,m2,m3,by rw[←aNH s3]; exact .v _ rfl,by rw[←aNH s4]; exact .v _ rfl,.v _ rfl,.v _ rfl,.v _ rfl,l8,trivial⟩
   · simp only[Xi];rw[aAW] at n8;exact⟨i1,⟨aMX w5,aMX w0,i0,w1,i2.1,w3,w4⟩,n8,xi⟩
   · have i3:=i2.2;subst hy0 hy1 hy3 hy4 hy5 hy6 hy7;simp only[Xw,List.map_cons,List.map_nil,Rows.uptoBulk,Rows.uptoBulkAll];omega
end
set_option maxRecDepth 100000 in
theorem aK4 {H:Type} {enc:TypeId×Value→H} {W:World} : ∀ (n:Nat) (cs:List Value) (x:DataW H×List MemPlace),DataW.trod enc Tryz.prog W 0 (fun _=>true) true n 26 cs=some x→∃ e:Xp,CVRs W (fun _=>False) e.cells cs∧Xi e∧Xw e≤Rows.uptoBulk x.1 :=
 aPP Tryz.underlying26 (by kernel_rfl) rfl rfl rfl rfl rfl rfl rfl rfl rfl (by kernel_rfl) (by kernel_rfl) (by kernel_rfl) (by kernel_rfl) (by kernel_rfl) (by kernel_rfl) (by kernel_rfl) (by kernel_rfl) (by kernel_rfl)
  Tryz.underlying3 Tryz.underlying9 Tryz.underlying23 Tryz.underlying9 Tryz.underlying9 Tryz.underlying3 Tryz.underlying4 Tryz.underlying4 Tryz.underlying24
  rfl rfl rfl (by kernel_rfl) (by kernel_rfl) (by kernel_rfl) Tryz.underlying3 Tryz.underlying2 Tryz.underlying9
theorem expr_argW {H:Type} {enc:TypeId×Value→H} {W:World} {v:Value} {d:DataW H} {ps:List MemPlace} (h:DataW.Trod enc Tryz.prog W 0 (fun _=>true) true 26 v d ps) :
 ∃ e:Xp,DVR W (fun _=>False) (xD e) v∧Xi e∧Xw e≤Rows.uptoBulk d:=by
 obtain⟨fuel,h⟩:=h;obtain⟨e,h1,h2,h3⟩:=aK4 fuel _ _ h;refine⟨e,?_,h2,h3⟩;have hl:=CVRs.len h1;rw[aBG] at hl;unfold xD;simp only[DVR]
 cases v with
 | agg a=>exact⟨a,rfl,h1⟩
 | _=>simp[Value.cells] at hl
theorem aNk {H:Type} : ∀ {els:List (List CV)} {ds:List (DataW H)} (_:ds.length=els.length) (_ : ∀ (i:Nat) (el:List CV) (d:DataW H),els[i]? = some el→ds[i]? = some d→∃ v:V3,el=[.v (.int .i64 v.1),.v (.int .i64 v.2.1),.v (.string (bs v.2.2))]∧I64 v.1∧I64 v.2.1∧(v.2.2.length≤maxLen∧v.2.2.length≤Rows.uptoBulk d)),
 ∃ L:List V3,els=vc L∧∀ v∈L,I64 v.1∧I64 v.2.1∧v.2.2.length≤Rows.uptoBulkAll ds
 | [],ds,_,_=>⟨[],rfl,by simp⟩
 | el::els,[],hl,_=>by simp at hl
 | el::els,d::ds,hl,h=>by
  obtain⟨v,rfl,h1,h2,_,h3⟩:=h 0 el d rfl rfl;obtain⟨L,rfl,hL⟩:=aNk (els:=els) (ds:=ds) (by simpa using hl) (fun i el' d' hi hd=>h (i+1) el' d' (by simpa using hi) (by simpa using hd));refine⟨v::L,rfl,fun u hu=>?_⟩;simp only[Rows.uptoBulkAll];rcases List.mem_cons.1 hu with rfl | hu
  · exact⟨h1,h2,by omega⟩
  · obtain⟨g1,g2,g3⟩:=hL u hu;exact⟨g1,g2,by omega⟩
set_option maxRecDepth 100000 in
theorem vals_argW {H:Type} {enc:TypeId×Value→H} {W:World} {v:Value} {d:DataW H} {ps:List MemPlace} (hval:Value.okWide Tryz.prog W .any 0 27 v) (h:DataW.Trod enc Tryz.prog W 0 (fun _=>true) true 27 v d ps) :
 ∃ L:List V3,CVR W (fun _=>False) (.vs (vc L)) v∧∀ v∈L,I64 v.1∧I64 v.2.1∧v.2.2.length≤Rows.uptoBulk d:=by
 obtain⟨fuel,h⟩:=h;unfold Value.okWide at hval;rw[Tryz.underlying27] at hval;simp only[] at hval
 have hc:v.cells.toList=[v]:=by
  cases v <;> first | rfl | (exfalso; unfold Cell.okWide Cell.ok at hval; rw[Tryz.underlying27] at hval; exact hval)
 rw[hc] at h;obtain⟨els,ds,h1,h2,h3,h4,h5⟩:=aFQ Tryz.underlying27 (of_decide_eq_true (by kernel_rfl)) (fun el d=>∃ v:V3,el=[.v (.int .i64 v.1),.v (.int .i64 v.2.1),.v (.string (bs v.2.2))]∧I64 v.1∧I64 v.2.1∧(v.2.2.length≤maxLen∧v.2.2.length≤Rows.uptoBulk d)) (fun n _ cs y hy=>aId Tryz.underlying23 (by kernel_rfl) rfl rfl rfl (by kernel_rfl) (by kernel_rfl) (by kernel_rfl) Tryz.underlying3 Tryz.underlying2 Tryz.underlying9 n cs y hy) h;have h5:Rows.uptoBulkAll ds+1≤Rows.uptoBulk d:=h5;obtain⟨L,rfl,hL⟩:=aNk h3 h4;exact⟨L,h1,fun v hv=>⟨(hL v hv).1,(hL v hv).2.1,by have:=(hL v hv).2.2; omega⟩⟩
theorem aOq : ∀ l:List Xp,8*l.length≤Xws l
 | []=>by simp[Xws]
 | .mk k op v tb nm sl nt ds args::r=>by
  have:=aOq r
  simp only[Xws,Xw,List.length_cons];omega
mutual
theorem fv_of : ∀ e:Xp,Xi e→Xw e≤1048576→Fv e
 | .mk k op v tb nm sl nt ds args,h,hw=>by
  simp only[Xi] at h;simp only[Xw] at hw
  have:=aOq args
  simp only[Fv];refine⟨⟨h.2.1.2.1,⟨h.2.1.2.2.1,h.1,by unfold Sm; omega⟩,h.2.1.1⟩,⟨by unfold Sm; omega,by unfold Sm; omega,by unfold Sm; omega⟩,by omega,aSL args h.2.2.2 (by omega)⟩
theorem aSL : ∀ l:List Xp,Xis l→Xws l≤1048576→Fvs l
 | [],_,_=>trivial
 | e::r,h,hw=>by
  simp only[Xis] at h;simp only[Xws] at hw;exact⟨fv_of e h.1 (by omega),aSL r h.2 (by omega)⟩
end
mutual
theorem pl_named : ∀ e:Xp,Fv e→plX (aBm e)+50≤400*Xw e
 | .mk k op v tb nm sl nt ds args,h=>by
  simp only[Fv] at h;unfold aBm;split
  · have:=aDb sl h.1.2.2
    simp only[plX,plXs,Xw,List.length_cons,List.length_nil];omega
  · have:=aKT args h.2.2.2
    simp only[plX,Xw];omega
theorem aKT : ∀ l:List Xp,Fvs l→plXs (aA8 l)≤400*Xws l
 | [],_=>by simp[aA8,plXs]
 | e::r,h=>by
  simp only[Fvs] at h;have h1:=pl_named e h.1;have h2:=aKT r h.2;simp only[aA8,plXs,Xws];omega
end
end
section
open Go Go.RowKit
theorem glo_shaped {w:World} (h:w.ShapedOpen Tryz.prog):Glo w:=fun g hg=>by
 have e:g=0:=by simpa[aEv] using hg
 subst e;exact Tryz.laysM155.s1_3 w h
theorem one_param {P:Program} {fn:Func} (h:(fn.params.toList.all fun t=>!P.wantsStandIn t)=true) : ∀ (j:Nat) t,fn.params[j]? = some t→P.wantsStandIn t=false:=fun j t ht=>by
 have hm:t∈fn.params.toList:=by
  have:=Array.mem_of_getElem? ht
  simpa using this
 have:=List.all_eq_true.1 h t hm
 simpa using this
end
end Go.Proofs.YtcdeimjlgpfjiaaGreatDoor
