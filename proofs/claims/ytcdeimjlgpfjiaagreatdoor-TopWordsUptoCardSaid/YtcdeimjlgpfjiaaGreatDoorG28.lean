/- What Eval of package eval makes of any fair expression and any row of small values. Conditions: as said. -/
import Derived.Test.YtcdeimjlgpfjiaaGreatDoorG26
import Derived.Test.YtcdeimjlgpfjiaaGreatDoorG27
set_option linter.unusedSimpArgs false
set_option linter.unusedVariables false
namespace Go.Proofs.YtcdeimjlgpfjiaaGreatDoor
section
open Go.RowKit Go.IntWalk
theorem aGB : ∀ (l:List Xp) (n:Nat),(xcs l).drop n=xcs (l.drop n)
 | [],n=>by simp[xcs]
 | e::l,0=>rfl
 | e::l,n+1=>by simp[xcs,aGB l n]
theorem aS4 (k:Int) (op:List UInt8) (v:V3) (tb nm:List UInt8) (sl:Int) (nt ds:Bool) (args:List Xp) (a b:V3) (ha:Vs a) (hb:Vs b):FnC Tryz.prog 58 [xD (.mk k op v tb nm sl nt ds args),.c (.vs (vc [a,b]))] (tupE (aKR nt a b)):=by
 unfold xD;simp only[Xp.cells];refine w58 k (bs op) v.1 v.2.1 (bs v.2.2) (bs tb) (bs nm) sl nt ds (xcs args) (vc [a,b]) ?_;rw[vc_0 _ (0:Int) (by omega) (by simp),vc_0 _ (1:Int) (by omega) (by simp),vc_2 _ (0:Int) (by omega) (by simp),vc_2 _ (1:Int) (by omega) (by simp)];unfold aKR;refine⟨by simp[aAz],aAN _,aN0 _ _ (by omega) (by simp),fun _=>by simp[aAz],fun _=>aAN _,fun _=>aN0 _ _ (by omega) (by simp),fun h=>?_,fun h=>?_⟩
 · rw[if_pos (show a.1=0∨b.1=0 from h)]; rfl
 rw[if_neg (show ¬ (a.1=0∨b.1=0) from h)];refine⟨by simp[aAz],aAN _,aN0 _ _ (by omega) (by simp),fun _=>by simp[aAz],fun _=>aAN _,fun _=>aN0 _ _ (by omega) (by simp),fun h2=>?_,fun h2=>?_⟩
 · rw[if_pos (show ¬ a.1=2∨¬ b.1=2 from h2)]; rfl
 rw[if_neg (show ¬ (¬ a.1=2∨¬ b.1=2) from h2)];exact⟨by simp[aAz],aAN _,aTs _ _ (by omega) (by simp),by simp[aAz],aAN _,aTs _ _ (by omega) (by simp),_,aSE a.2.2 b.2.2 ha.2.2 hb.2.2,_,_,_,aFM _,rfl⟩
theorem aSZ (op:List UInt8) (v:V3) (h:I64 v.2.1) (hs:Sz v.2.2):FnC Tryz.prog 60 [sD op,vD v] (tupE (aKC op v)):=by
 refine w60 (bs op) v.1 v.2.1 (bs v.2.2) ?_;simp only[aAG,aAu];unfold aKC;refine⟨fun h1=>?_,fun h1=>⟨fun h2=>?_,fun h2=>⟨fun h3=>?_,fun h3=>?_⟩⟩⟩
 · rw[if_pos (show op=wInt from h1)]; exact⟨_,_,_,_,aLq v 1 h hs,rfl⟩
 · rw[if_neg (show ¬ op=wInt from h1),if_pos (show op=aRh from h2)]; exact⟨_,_,_,_,aLq v 3 h hs,rfl⟩
 · rw[if_neg (show ¬ op=wInt from h1),if_neg (show ¬ op=aRh from h2),if_pos (show op=aTe from h3)]; exact⟨_,_,_,_,aLq v 2 h hs,rfl⟩
 · rw[if_neg (show ¬ op=wInt from h1),if_neg (show ¬ op=aRh from h2),if_neg (show ¬ op=aTe from h3)]; rfl
section
variable (row:List V3)
theorem aJn {e:Xp} {c:V3×Int} (h:EvR row e c) (b:V3) (hb:Sz b.2.2∧Sz c.1.2.2):FnC Tryz.prog 49 [xD e,.c (.vs (vc row)),.c (.vs (vc [b]))] (.tup [bD (aIA (some b) c).1,iD (aIA (some b) c).2]):=by
 obtain⟨k,op,v,tb,nm,sl,nt,ds,args⟩:=e;unfold EvR xD at h;unfold xD;simp only[Xp.cells] at h ⊢;refine w49 k (bs op) v.1 v.2.1 (bs v.2.2) (bs tb) (bs nm) sl nt ds (xcs args) (vc row) (vc [b]) ⟨_,_,_,_,h,?_⟩;unfold aIA;refine⟨fun h1=>by rw[if_pos h1] <;> rfl,fun h1=>?_⟩;rw[if_neg h1];refine⟨fun _=>?_,fun h2=>absurd (by simp[aAz]) h2⟩;rw[aBl _ (0:Int) (by omega) (by simp)];exact⟨by simp[aAz],aAN _,vc_k _ _ (by omega) (by simp),_,_,_,aJZ [61] b c.1 hb.1 hb.2,_,_,_,aEH _,rfl⟩
theorem aJ7 {e:Xp} {c:V3×Int} (h:EvR row e c):FnC Tryz.prog 49 [xD e,.c (.vs (vc row)),.c (.vs (vc []))] (.tup [bD (aIA none c).1,iD (aIA none c).2]):=by
 obtain⟨k,op,v,tb,nm,sl,nt,ds,args⟩:=e;unfold EvR xD at h;unfold xD;simp only[Xp.cells] at h ⊢;refine w49 k (bs op) v.1 v.2.1 (bs v.2.2) (bs tb) (bs nm) sl nt ds (xcs args) (vc row) (vc []) ⟨_,_,_,_,h,?_⟩;unfold aIA;refine⟨fun h1=>by rw[if_pos h1] <;> rfl,fun h1=>?_⟩;rw[if_neg h1];exact⟨fun h2=>absurd h2 (by simp[aAz]),fun _=>⟨_,_,_,aEH _,rfl⟩⟩
theorem aQ3 {e:Xp} {row:List V3} {r:DV} (h:FnC Tryz.prog 49 [xD e,.c (.vs (vc row)),.c (.vs (vc []))] r):FnC Tryz.prog 49 [xD e,.c (.vs (vc row)),nilD] r :=
 aTn h fun w X vs hv=>by
  match vs,hv with
  | [a,b,c],hv =>
   simp only[DVRs] at hv ⊢;exact⟨hv.1,hv.2.1,aUn hv.2.2.1,trivial⟩
  | [],hv=>simp[DVRs] at hv
  | [_],hv=>simp[DVRs] at hv
  | [_,_],hv=>simp[DVRs] at hv
  | _::_::_::_::_,hv=>simp[DVRs] at hv
theorem aUq (k:Int) (op:List UInt8) (v:V3) (tb nm:List UInt8) (sl:Int) (nt ds:Bool) (args:List Xp) (X:List (V3×Int)) (hX:X.length=args.length) (hG : ∀ x∈X,Sz x.1.2.2) (hm:ds=true→1≤args.length)
 (hA : ∀ i (h:i<args.length),EvR row args[i] (X.getD i (nul,0))):FnC Tryz.prog 31 [xD (.mk k op v tb nm sl nt ds args),.c (.vs (vc row))] (tupE (casV ds X)):=by
 unfold xD;simp only[Xp.cells];refine w31 k (bs op) v.1 v.2.1 (bs v.2.2) (bs tb) (bs nm) sl nt ds (xcs args) (vc row) ?_;unfold casV;refine⟨fun h=>?_,fun h=>?_⟩
 · rw[if_pos h]
   match args,X,hX,hG,hm h,hA with
   | e0::args,b0::X0,hX,hG,_,hA =>
   have h0:EvR row e0 b0:=hA 0 (by simp)
   have hX0:X0.length=args.length:=by simpa using hX
   have hC0 : ∀ i (h:i<args.length),EvR row args[i] (X0.getD i (nul,0)):=fun i hi=>hA (i+1) (by simpa using hi)
   have hls:((e0::args).length:Int)=args.length+1:=by simp
   rw[xs_D _ (0:Int) (by omega) (by omega),aAW];refine⟨by omega,aA2 _,xs_k _ _ (by omega) (by omega),_,_,_,_,h0,fun h1=>by simp only[if_pos h1] <;> rfl,fun h1=>?_⟩;simp only[if_neg h1];intro x16 h16;obtain rfl:x16=vc [b0.1]:=h16;refine⟨by omega,aA2 _,?_⟩
   have hd:(xcs (e0::args)).drop (1:Int).toNat=xcs args:=by rw[aGB]; rfl
   rw[hd];have gX0 : ∀ x∈X0,Sz x.1.2.2:=fun x hx=>hG x (by simp[hx]);have gb:Sz b0.1.2.2:=hG b0 (by simp);refine⟨fun rows m=>∃ (l:List Xp) (Y:List (V3×Int)),rows=xcs l∧Y.length=l.length∧(∀ i (h:i<l.length),EvR row l[i] (Y.getD i (nul,0)))∧(∀ y∈Y,Sz y.1.2.2)∧aC5 (some b0.1) X0=aC5 (some b0.1) Y∧m=l.length,⟨_,_,X0,rfl,hX0,hC0,gX0,rfl,rfl⟩,?_⟩;rintro m rows ⟨l,Y,rfl,hY,hC,hS,hP,rfl⟩;rw[aAW];refine⟨fun hi=>?_,fun hi=>?_⟩
   · match l,Y,hY,hC,hS,hP,hi with
     | c::r::l',cx::rx::Y',hY,hC,hS,hP,hi =>
      have hc:EvR row c cx:=hC 0 (by simp);have hrr:EvR row r rx:=hC 1 (by simp)
      have hd:(xcs (c::r::l')).drop (2:Int).toNat=xcs l':=by rw[aGB]; rfl
      have hls:((c::r::l').length:Int)=l'.length+2:=by simp only[List.length_cons]; omega
      rw[xs_D _ (0:Int) (by omega) (by omega),xs_D _ (1:Int) (by omega) (by omega),hd,hP,aC5];refine⟨by omega,aA2 _,xs_k _ _ (by omega) (by omega),_,_,aJn row hc b0.1 ⟨gb,hS cx (by simp)⟩,fun h=>by rw[if_pos h] <;> rfl,fun h=>⟨fun h2=>?_,fun h2=>?_⟩⟩
      · rw[if_neg h,if_pos h2];exact⟨by omega,aA2 _,xs_k _ _ (by omega) (by omega),_,_,_,_,hrr,rfl⟩
      · rw[if_neg h,if_neg h2];refine⟨by omega,aA2 _,l'.length,by simp only[List.length_cons]; omega,l',Y',rfl,by simpa using hY,fun i hi=>?_,fun y hy=>hS y (by simp[hy]),rfl,rfl⟩;exact hC (i+2) (by simpa using hi)
     | [],_,_,_,_,_,hi=>simp at hi
     | [_],_,_,_,_,_,hi=>simp at hi
     | _::_::_,[],hY,_,_,_,_=>simp at hY
     | _::_::_,[_],hY,_,_,_,_=>simp at hY
   · refine⟨fun h1=>?_,fun h1=>?_⟩
     · match l,Y,hY,hC,hP,h1 with
       | [c],[cx],_,hC,hP,_ =>
        have hc:EvR row c cx:=hC 0 (by simp);rw[xs_D _ (0:Int) (by omega) (by simp),hP,aC5];exact⟨by simp,aA2 _,xs_k _ _ (by omega) (by simp),_,_,_,_,hc,rfl⟩
       | [],_,_,_,_,h1=>simp at h1
       | _::_::_,_,_,_,_,h1=>simp at h1; omega
       | [_],[],hY,_,_,_=>simp at hY
       | [_],_::_::_,hY,_,_,_=>simp at hY
     · match l,Y,hY,hP,hi,h1 with
       | [],[],_,hP,_,_=>rw[hP]; rfl
       | [],_::_,hY,_,_,_=>simp at hY
       | [_],_,_,_,_,h1=>simp at h1
       | _::_::_,_,_,_,hi,_=>simp at hi; omega
 · rw[if_neg h];refine⟨fun rows m=>∃ (l:List Xp) (Y:List (V3×Int)),rows=xcs l∧Y.length=l.length∧(∀ i (h:i<l.length),EvR row l[i] (Y.getD i (nul,0)))∧(∀ y∈Y,Sz y.1.2.2)∧aC5 none X=aC5 none Y∧m=l.length,⟨_,_,X,rfl,hX,hA,hG,rfl,rfl⟩,?_⟩;rintro m rows ⟨l,Y,rfl,hY,hC,hS,hP,rfl⟩;rw[aAW];refine⟨fun hi=>?_,fun hi=>?_⟩
   · match l,Y,hY,hC,hS,hP,hi with
     | c::r::l',cx::rx::Y',hY,hC,hS,hP,hi =>
      have hc:EvR row c cx:=hC 0 (by simp);have hrr:EvR row r rx:=hC 1 (by simp)
      have hd:(xcs (c::r::l')).drop (2:Int).toNat=xcs l':=by rw[aGB]; rfl
      have hls:((c::r::l').length:Int)=l'.length+2:=by simp only[List.length_cons]; omega
      rw[xs_D _ (0:Int) (by omega) (by omega),xs_D _ (1:Int) (by omega) (by omega),hd,hP,aC5];refine⟨by omega,aA2 _,xs_k _ _ (by omega) (by omega),_,_,aQ3 (aJ7 row hc),fun h=>by rw[if_pos h] <;> rfl,fun h=>⟨fun h2=>?_,fun h2=>?_⟩⟩
      · rw[if_neg h,if_pos h2];exact⟨by omega,aA2 _,xs_k _ _ (by omega) (by omega),_,_,_,_,hrr,rfl⟩
      · rw[if_neg h,if_neg h2];refine⟨by omega,aA2 _,l'.length,by simp only[List.length_cons]; omega,l',Y',rfl,by simpa using hY,fun i hi=>?_,fun y hy=>hS y (by simp[hy]),rfl,rfl⟩;exact hC (i+2) (by simpa using hi)
     | [],_,_,_,_,_,hi=>simp at hi
     | [_],_,_,_,_,_,hi=>simp at hi
     | _::_::_,[],hY,_,_,_,_=>simp at hY
     | _::_::_,[_],hY,_,_,_,_=>simp at hY
   · refine⟨fun h1=>?_,fun h1=>?_⟩
     · match l,Y,hY,hC,hP,h1 with
       | [c],[cx],_,hC,hP,_ =>
        have hc:EvR row c cx:=hC 0 (by simp);rw[xs_D _ (0:Int) (by omega) (by simp),hP,aC5];exact⟨by simp,aA2 _,xs_k _ _ (by omega) (by simp),_,_,_,_,hc,rfl⟩
       | [],_,_,_,_,h1=>simp at h1
       | _::_::_,_,_,_,_,h1=>simp at h1; omega
       | [_],[],hY,_,_,_=>simp at hY
       | [_],_::_::_,hY,_,_,_=>simp at hY
     · match l,Y,hY,hP,hi,h1 with
       | [],[],_,hP,_,_=>rw[hP]; rfl
       | [],_::_,hY,_,_,_=>simp at hY
       | [_],_,_,_,_,h1=>simp at h1
       | _::_::_,_,_,_,hi,_=>simp at hi; omega
end
section
variable (k:Int) (op:List UInt8) (v:V3) (tb nm:List UInt8) (sl:Int) (nt ds:Bool) (args:List Xp) (row:List V3)
theorem aSk:FnC Tryz.prog 32 [xD (.mk 2 op v tb nm sl nt ds args),.c (.vs (vc [])),.c (.vs (vc row))] (tupE (if sl<0∨(row.length:Int)≤sl then (nul,1) else (row.getD sl.toNat nul,0))):=by
 unfold xD;simp only[Xp.cells];refine w32 2 (bs op) v.1 v.2.1 (bs v.2.2) (bs tb) (bs nm) sl nt ds (xcs args) (vc []) (vc row) ?_;rw[aAz row];refine⟨fun h=>absurd h (by decide),fun _=>⟨fun _=>⟨fun h=>by rw[if_pos h]; rfl,fun h=>?_⟩,fun h=>absurd rfl h⟩⟩;rw[if_neg h,aBl _ _ (by omega) (by omega)];exact⟨by omega,aAN _,vc_k _ _ (by omega) (by omega),rfl⟩
theorem aOr (a b:V3) (ha:Vs a) (hb:Vs b):FnC Tryz.prog 32 [xD (.mk 8 op v tb nm sl nt ds args),.c (.vs (vc [a,b])),.c (.vs (vc row))] (tupE (aKR nt a b)):=by
 have hc:=aS4 8 op v tb nm sl nt ds args a b ha hb;unfold xD at hc ⊢;simp only[Xp.cells] at hc ⊢;refine w32 8 (bs op) v.1 v.2.1 (bs v.2.2) (bs tb) (bs nm) sl nt ds (xcs args) (vc [a,b]) (vc row) ?_
 iterate 7 refine⟨fun h=>absurd h (by decide),fun _=>?_⟩
 exact⟨fun _=>⟨_,_,_,_,hc,rfl⟩,fun h=>absurd rfl h⟩
theorem aTg (L:List V3) (hop:Sm op) (hl:L.length≤1000000) (hL : ∀ a∈L,Vs a):FnC Tryz.prog 32 [xD (.mk 10 op v tb nm sl nt ds args),.c (.vs (vc L)),.c (.vs (vc row))] (tupE (resC op L)):=by
 have hc:=aTA op hop L hl hL;unfold xD;simp only[Xp.cells];refine w32 10 (bs op) v.1 v.2.1 (bs v.2.2) (bs tb) (bs nm) sl nt ds (xcs args) (vc L) (vc row) ?_
 iterate 8 refine⟨fun h=>absurd h (by decide),fun _=>?_⟩
 exact⟨fun _=>⟨_,_,_,_,hc,rfl⟩,fun h=>absurd rfl h⟩
theorem aQg (a:V3) (ha:I64 a.2.1) (sa:Sz a.2.2):FnC Tryz.prog 32 [xD (.mk 12 op v tb nm sl nt ds args),.c (.vs (vc [a])),.c (.vs (vc row))] (tupE (aKC op a)):=by
 unfold xD;simp only[Xp.cells];refine w32 12 (bs op) v.1 v.2.1 (bs v.2.2) (bs tb) (bs nm) sl nt ds (xcs args) (vc [a]) (vc row) ?_
 iterate 9 refine⟨fun h=>absurd h (by decide),fun _=>?_⟩
 rw[aBl _ (0:Int) (by omega) (by simp)];exact⟨by simp[aAz],aAN _,vc_k _ _ (by omega) (by simp),_,_,_,_,aSZ op a ha sa,rfl⟩
theorem aJq {n:Nat} (h:mayV k ds n=0):okN k ds n:=by
 unfold mayV at h;split at h
 · cases h
 · split at h
   · assumption
   · cases h
theorem len1 {L:List V3} (h:L.length=1) : ∃ a,L=[a]:=by
 match L,h with
 | [a],_=>exact⟨a,rfl⟩
theorem len2 {L:List V3} (h:L.length=2) : ∃ a b,L=[a,b]:=by
 match L,h with
 | [a,b],_=>exact⟨a,b,rfl⟩
theorem len3 {L:List V3} (h:L.length=3) : ∃ a b c,L=[a,b,c]:=by
 match L,h with
 | [a,b,c],_=>exact⟨a,b,c,rfl⟩
end
end
end Go.Proofs.YtcdeimjlgpfjiaaGreatDoor
