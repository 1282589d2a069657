/- What expr.Print tells: some text, not longer than its bound. Conditions: numbers of 64 bits, texts that are not long, at most a million parts. -/
import Derived.Test.YtcdeimjlgpfjiaaGreatDoorG26
import Derived.Test.YtcdeimjlgpfjiaaGreatDoorG13
set_option linter.unusedSimpArgs false
set_option linter.unusedVariables false
namespace Go.Proofs.YtcdeimjlgpfjiaaGreatDoor
section
open Go.RowKit Go.IntWalk
def scL (L:List (List UInt8)):List (List CV):=L.map fun t=>[.v (.string (bs t))]
theorem aDI (L:List (List UInt8)):(scL L).length=L.length:=by simp[scL]
theorem aEM (L M:List (List UInt8)):scL (L++M)=scL L++scL M:=by simp[scL]
def sumL:List (List UInt8)→Nat
 | []=>0
 | t::r=>t.length+sumL r
theorem aFY (sep:List UInt8) : ∀ r:List (List UInt8),(Lib.joinTail sep r).length=sumL r+sep.length*r.length
 | []=>by simp[Lib.joinTail,sumL]
 | t::r=>by
  have ih:=aFY sep r;unfold Lib.joinTail at ih ⊢;simp only[List.map_cons,List.flatten_cons,List.length_append,List.length_cons,sumL,ih,Nat.mul_add,Nat.mul_one];omega
theorem aEV (L:List (List UInt8)) (sep:List UInt8):(Lib.join L sep).length≤sumL L+sep.length*L.length:=by
 cases L with
 | nil=>simp[Lib.join_nil,sumL]
 | cons t r =>
  rw[Lib.join_cons,List.length_append,aFY];simp only[sumL,List.length_cons,Nat.mul_add,Nat.mul_one];omega
theorem aSy (L:List (List UInt8)) (sep:List UInt8) (h:(Lib.join L sep).length≤140737488355328) (hn:L.length≤140737488355328):FnC Tryz.prog 35 [.c (.vs (scL L)),sD sep] (sD (Lib.join L sep)):=by
 refine FnC.of (canEnter_of Tryz.func35 (by kernel_rfl) (by rfl)) fun w X vs hg _ hvs=>?_
 match vs,hvs with
 | [],h=>simp[DVRs] at h
 | [_],h=>simp[DVRs] at h
 | _::_::_::_,h=>simp[DVRs] at h
 | [v,u],hvs =>
 simp only[DVRs,DVR,and_true] at hvs;obtain⟨h1,h2⟩:=hvs;cases h2;rcases aB6 h1 with ⟨hnil,a,rfl⟩ | ⟨b,o,sz,c,g,rfl,hsz,hc,hcell,hval⟩
 · have:L=[]:=by
    have:=congrArg List.length hnil
    rw[aDI] at this;exact List.length_eq_zero_iff.1 this
   subst this;refine (Tryz.strings_Join_none a 0 (bs sep) w).mono ?_;rintro e w' ⟨rfl,rfl⟩;refine⟨_,rfl,?_,Below.refl _ _⟩;simp only[DVR];exact .v _ rfl
 · rw[aDI] at hc ⊢
   cases L with
   | nil =>
    refine (Tryz.strings_Join_none (some ⟨b,o,none⟩) c (bs sep) w).mono ?_;rintro e w' ⟨rfl,rfl⟩;refine⟨_,rfl,?_,Below.refl _ _⟩;simp only[DVR];exact .v _ rfl
   | cons t0 r =>
    have h1:sz=1:=(hsz [.v (.string (bs t0))] (by simp[scL])).symm;subst h1
    have hcells : ∀ (j:Nat) x,((t0::r).map bs)[j]? = some x→w.cell? ⟨b,o+j,none⟩=some (.string x):=fun j x hx=>by
     rw[List.getElem?_map] at hx
     cases ht:(t0::r)[j]? with
     | none=>rw[ht] at hx; cases hx
     | some t =>
      rw[ht] at hx;injection hx with hx;subst hx
      have hel:(scL (t0::r))[j]? = some [.v (.string (bs t))]:=by
       unfold scL;rw[List.getElem?_map,ht];rfl
      have g1:=(hcell j _ hel 0 _ rfl).2;have g2:=hval j _ hel 0 _ rfl
      have g3:g j 0 = .string (bs t):=by
       generalize g j 0=q at g2;cases g2;rfl
      rw[Nat.mul_one,Nat.add_zero,g3] at g1;exact g1
    have hmap:((t0::r).map bs).map (·.data.toList)=t0::r:=by
     rw[List.map_map]
     conv=>rhs; rw[←List.map_id (t0::r)]
     exact List.map_congr_left fun x _=>aBQ x
    have hj:=Tryz.strings_Join b o c ((t0::r).map bs) (bs sep) w hcells (World.block_lt_of_cell? _ _ (hcells 0 _ rfl)) (by rw[List.length_map]; exact hn) (by rw[List.length_map]; exact hc) (by rw[hmap,aBQ]; exact h);rw[hmap,aBQ,List.length_map] at hj;refine hj.mono ?_;rintro e w' ⟨rfl,hB⟩;refine⟨_,rfl,?_,hB⟩;simp only[DVR];exact .v _ rfl
end
section
open Go.RowKit Go.IntWalk
mutual
def plX:Xp→Nat
 | .mk k op v tb nm sl nt ds args=>100+op.length+2*v.2.2.length+tb.length+nm.length+plXs args
def plXs:List Xp→Nat
 | []=>0
 | e::r=>plX e+50+plXs r
end
theorem aOu : ∀ (l:List Xp) (i:Nat) (h:i<l.length),plX l[i]+50≤plXs l
 | e::r,0,_=>by simp only[plXs,List.getElem_cons_zero]; omega
 | e::r,i+1,h=>by
  have:=aOu r i (by simpa using h)
  simp only[plXs,List.getElem_cons_succ];omega
 | [],i,h=>by simp at h
theorem aIQ : ∀ l:List Xp,50*l.length≤plXs l
 | []=>by simp[plXs]
 | e::r=>by
  have:=aIQ r
  simp only[plXs,List.length_cons];omega
def PrL (args:List Xp) (T:List (List UInt8)):Prop:=T.length=args.length∧∀ i (h:i<args.length),(T.getD i []).length≤plX args[i]∧FnC Tryz.prog 7 [xD args[i]] (sD (T.getD i []))
theorem PrL.tail {e:Xp} {args:List Xp} {t:List UInt8} {T:List (List UInt8)} (h:PrL (e::args) (t::T)):PrL args T :=
 ⟨by simpa using h.1,fun i hi=>h.2 (i+1) (by simpa using hi)⟩
theorem PrL.head {e:Xp} {args:List Xp} {t:List UInt8} {T:List (List UInt8)} (h:PrL (e::args) (t::T)):t.length≤plX e∧FnC Tryz.prog 7 [xD e] (sD t):=h.2 0 (by simp)
theorem PrL.sum : ∀ {args:List Xp} {T:List (List UInt8)},PrL args T→sumL T+50*args.length≤plXs args
 | [],[],_=>by simp[sumL,plXs]
 | e::args,t::T,h=>by
  have h1:=h.head.1;have h2:=h.tail.sum;simp only[sumL,plXs,List.length_cons];omega
 | [],_::_,h=>by have:=h.1; simp at this
 | _::_,[],h=>by have:=h.1; simp at this
theorem PrL.take_sum {args:List Xp} {T:List (List UInt8)} (h:PrL args T) (i:Nat):(T.getD i []).length≤plXs args:=by
 by_cases hi:i<args.length
 · have:=(h.2 i hi).1
   have:=aOu args i hi
   omega
 · rw[List.getD_eq_getElem?_getD,List.getElem?_eq_none (by have:=h.1; omega)]
   simp
theorem aJA (T:List (List UInt8)):(T.getD 0 []).length+(T.getD 1 []).length+(T.getD 2 []).length≤sumL T:=by
 match T with
 | []=>simp[sumL]
 | [a]=>simp[sumL]
 | [a,b]=>simp[sumL]
 | a::b::c::r=>simp[sumL]; omega
theorem aL4:FnC Tryz.prog 7 [xD nulX] (sD []):=by
 unfold xD;simp only[Xp.cells];refine w7 0 (bs []) 0 0 (bs []) (bs []) (bs []) 0 false false (xcs []) ?_
 iterate 13 first | refine⟨fun h=>absurd h (by decide),fun _=>?_⟩ | skip
 rfl
section
variable (k:Int) (op:List UInt8) (v:V3) (tb nm:List UInt8) (sl:Int) (nt ds:Bool) (args:List Xp)
theorem aPT (i:Nat):FnC Tryz.prog 21 [xD (.mk k op v tb nm sl nt ds args),iD i] (xD (args.getD i nulX)):=by
 unfold xD;simp only[Xp.cells];refine w21 k (bs op) v.1 v.2.1 (bs v.2.2) (bs tb) (bs nm) sl nt ds (xcs args) (i:Int) ?_;rw[aAW];refine⟨fun h=>?_,fun h=>?_⟩
 · have hlt:i<args.length:=by omega
   rw[xs_D _ (i:Int) (by omega) (by omega)];refine⟨⟨by omega,by omega⟩,aA2 _,xs_k _ _ (by omega) (by omega),?_⟩
   have e:args.getD i nulX=args[i]:=by rw[List.getD_eq_getElem?_getD,List.getElem?_eq_getElem hlt]; rfl
   rw[e];rfl
 · have e:args.getD i nulX=nulX:=by rw[List.getD_eq_getElem?_getD,List.getElem?_eq_none (by omega)]; rfl
   rw[e];rfl
variable {k op v tb nm sl nt ds args}
theorem aLT {T:List (List UInt8)} (h:PrL args T) (i:Nat):FnC Tryz.prog 7 [xD (args.getD i nulX)] (sD (T.getD i [])):=by
 by_cases hi:i<args.length
 · have e:args.getD i nulX=args[i]:=by rw[List.getD_eq_getElem?_getD,List.getElem?_eq_getElem hi]; rfl
   rw[e];exact (h.2 i hi).2
 · have e:args.getD i nulX=nulX:=by rw[List.getD_eq_getElem?_getD,List.getElem?_eq_none (by omega)]; rfl
   have e2:T.getD i []=[]:=by rw[List.getD_eq_getElem?_getD,List.getElem?_eq_none (by have:=h.1; omega)]; rfl
   rw[e,e2];exact aL4
def aBj (k:Int) (x:Xp) (t:List UInt8):List UInt8:=match x with
 | .mk k2 _ v2 _ _ _ _ _ _=>if (k2=3∨k2=4∨k2=5∨k2=6∨k2=7∨k2=8)∨(k2=1∧k=3∧v2.1=1) then [40]++t++[41] else t
theorem aFy (k:Int) (x:Xp) (t:List UInt8):(aBj k x t).length≤t.length+2:=by
 obtain⟨k2,_,v2,_,_,_,_,_,_⟩:=x;unfold aBj;simp only;split <;> simp
theorem aGX {T:List (List UInt8)} (h:PrL args T) (hb:plXs args≤1000000000) (i:Nat):FnC Tryz.prog 16 [xD (.mk k op v tb nm sl nt ds args),iD i] (sD (aBj k (args.getD i nulX) (T.getD i []))):=by
 have hp:=aPT k op v tb nm sl nt ds args i;have hr:=aLT h i;have hl:=h.take_sum i;generalize args.getD i nulX=x at hp hr ⊢;generalize T.getD i []=t at hr hl ⊢;obtain⟨k2,op2,v2,tb2,nm2,sl2,nt2,ds2,args2⟩:=x;unfold xD at hp hr ⊢;simp only[Xp.cells] at hp hr ⊢;have e40:(⟨#[40]⟩:ByteArray)=bs [40]:=rfl;have e41:(⟨#[41]⟩:ByteArray)=bs [41]:=rfl;refine w16 k (bs op) v.1 v.2.1 (bs v.2.2) (bs tb) (bs nm) sl nt ds (xcs args) (i:Int) ⟨_,_,_,_,_,_,_,_,_,_,_,hp,_,hr,?_⟩;rw[e40,e41];simp only[aAi,aAg]
 have s1:(([40]:List UInt8).length+t.length:Nat)≤(9223372036854775807:Int):=by simp only[List.length_cons,List.length_nil]; omega
 have s2:((([40]++t:List UInt8)).length+([41]:List UInt8).length:Nat)≤(9223372036854775807:Int):=by simp only[List.length_append,List.length_cons,List.length_nil]; omega
 have yes:((k2=3∨k2=4∨k2=5∨k2=6∨k2=7∨k2=8)∨(k2=1∧k=3∧v2.1=1))→aBj k (.mk k2 op2 v2 tb2 nm2 sl2 nt2 ds2 args2) t=[40]++t++[41]:=fun h=>by unfold aBj; simp only; rw[if_pos h]
 have no : ¬ ((k2=3∨k2=4∨k2=5∨k2=6∨k2=7∨k2=8)∨(k2=1∧k=3∧v2.1=1))→aBj k (.mk k2 op2 v2 tb2 nm2 sl2 nt2 ds2 args2) t=t:=fun h=>by unfold aBj; simp only; rw[if_neg h]
 refine⟨fun h1=>⟨s1,s2,by rw[yes (by omega)]⟩,fun h1=>⟨fun h2=>⟨s1,s2,by rw[yes (by omega)]⟩,fun h2=>⟨fun h3=>⟨s1,s2,by rw[yes (by omega)]⟩,fun h3=>⟨fun h4=>⟨s1,s2,by rw[yes (by omega)]⟩,fun h4=>⟨fun h5=>⟨s1,s2,by rw[yes (by omega)]⟩,fun h5=>⟨fun h6=>⟨s1,s2,by rw[yes (by omega)]⟩,fun h6=>⟨fun h7=>⟨fun h8=>⟨s1,s2,by rw[yes (.inr ⟨h7,h8⟩)]⟩,fun h8=>by rw[no (fun e=>by omega)]⟩,fun h7=>by rw[no (fun e=>by omega)]⟩⟩⟩⟩⟩⟩⟩
def notT (nt:Bool) (w:List UInt8):List UInt8:=if nt=true then [32,110,111,116,32]++w++[32] else [32]++w++[32]
theorem aI7 (nt:Bool) (w:List UInt8):(notT nt w).length≤w.length+6:=by
 unfold notT;split <;> simp
theorem aTP (w:List UInt8) (hw:w.length≤100):FnC Tryz.prog 17 [xD (.mk k op v tb nm sl nt ds args),sD w] (sD (notT nt w)):=by
 unfold xD;simp only[Xp.cells];have e1:(⟨#[32,110,111,116,32]⟩:ByteArray)=bs [32,110,111,116,32]:=rfl;have e2:(⟨#[32]⟩:ByteArray)=bs [32]:=rfl;refine w17 k (bs op) v.1 v.2.1 (bs v.2.2) (bs tb) (bs nm) sl nt ds (xcs args) (bs w) ?_;rw[e1,e2];simp only[aAi,aAg];unfold notT;refine⟨fun h=>⟨?_,?_,by rw[if_pos h]⟩,fun h=>⟨?_,?_,by rw[if_neg h]⟩⟩ <;> simp only[List.length_append,List.length_cons,List.length_nil] <;> omega
theorem aN5 (T:List (List UInt8)) (K:Nat) (h:K<T.length):T.take (K+1)=T.take K++[T.getD K []]:=by
 rw[List.take_add_one,List.getD_eq_getElem?_getD];simp[h]
theorem aL7 {T:List (List UInt8)} (h:PrL args T) (hb:plXs args≤1000000000):FnC Tryz.prog 18 [.c (.vs (xcs args))] (sD ([40]++Lib.join T [44,32]++[41])):=by
 have hl:=h.1;have hsum:=h.sum;have hj:=aEV T [44,32];simp only[List.length_cons,List.length_nil] at hj;have hlen:=aIQ args;refine w18 (xcs args) ?_;rw[aAW];refine⟨fun rows i n=>∃ K:Nat,i=K∧K≤args.length∧n=args.length - K∧rows=scL (T.take K),⟨_,0,rfl,by omega,rfl,rfl⟩,?_⟩;rintro n rows i ⟨K,rfl,hK,rfl,rfl⟩;refine⟨fun h1=>?_,fun h1=>?_⟩
 · have hlt:K<args.length:=by omega
   rw[xs_D _ (K:Int) (by omega) (by omega)];refine⟨⟨by omega,by omega⟩,aA2 _,xs_k _ _ (by omega) (by omega),_,(h.2 K hlt).2,fun x24 h24=>⟨?_,fun x25 h25=>⟨args.length - (K+1),by omega,K+1,?_,by omega,rfl,?_⟩⟩⟩
   · rw[h24,aDI];simp only[List.length_cons,List.length_nil,List.length_take];omega
   · rw[i64_in _ (by omega)]; omega
   · rw[h25,h24,aN5 T K (by omega),aEM];rfl
 · have:K=args.length:=by omega
   subst this;rw[←hl,List.take_length];have e1:(⟨#[44,32]⟩:ByteArray)=bs [44,32]:=rfl;have e2:(⟨#[40]⟩:ByteArray)=bs [40]:=rfl;have e3:(⟨#[41]⟩:ByteArray)=bs [41]:=rfl;rw[e1,e2,e3];refine⟨_,aSy T [44,32] (by omega) (by omega),?_⟩;simp only[aAi,aAg];refine⟨?_,?_,trivial⟩ <;> simp only[List.length_append,List.length_cons,List.length_nil] <;> omega
end
end
section
open Go.RowKit Go.IntWalk
def aCy:List (List UInt8)→List (List UInt8)
 | []=>[[101,110,100]]
 | [t]=>[[101,108,115,101],t,[101,110,100]]
 | a::b::r=>[119,104,101,110]::a::[116,104,101,110]::b::aCy r
def aLw (ds:Bool) (T:List (List UInt8)):List (List UInt8):=match ds,T with
 | true,t::r=>[99,97,115,101]::t::aCy r
 | _,_=>[99,97,115,101]::aCy T
theorem aGF : ∀ (n:Nat) (T:List (List UInt8)),T.length≤n→sumL (aCy T)≤sumL T+4*T.length+7∧(aCy T).length≤2*T.length+1
 | _,[],_=>by simp[aCy,sumL]
 | _,[t],_=>by simp[aCy,sumL]; omega
 | 0,_::_::_,h=>by simp at h
 | n+1,a::b::r,h=>by
  have:=aGF n r (by simp at h; omega)
  simp only[aCy,sumL,List.length_cons,List.length_nil] at this ⊢;omega
theorem aJp (ds:Bool) (T:List (List UInt8)):sumL (aLw ds T)≤sumL T+4*T.length+20∧(aLw ds T).length≤2*T.length+3:=by
 unfold aLw;split
 · rename_i t r
   have:=aGF _ r (Nat.le_refl _)
   simp only[sumL,List.length_cons,List.length_nil] at this ⊢;omega
 · have:=aGF _ T (Nat.le_refl _)
   simp only[sumL,List.length_cons,List.length_nil] at this ⊢;omega
section
variable {k:Int} {op:List UInt8} {v:V3} {tb nm:List UInt8} {sl:Int} {nt ds:Bool} {args:List Xp}
theorem aLo {T:List (List UInt8)} (h:PrL args T) (hb:plXs args≤1000000000):FnC Tryz.prog 19 [xD (.mk k op v tb nm sl nt ds args)] (sD (Lib.join (aLw ds T) [32])):=by
 have hl:=h.1;have hsum:=h.sum;have hlen:=aIQ args;have hcs:=aJp ds T;obtain⟨W,hWd⟩ : ∃ W,W=aLw ds T:=⟨_,rfl⟩;rw[←hWd] at hcs ⊢;have hj:=aEV W [32];simp only[List.length_cons,List.length_nil] at hj
 have hjn : ∀ x,x=scL W→FnC Tryz.prog 35 [.c (.vs x),.c (.v (.string (bs [32])))] (sD (Lib.join W [32])):=fun x hx=>by
  rw[hx];exact aSy W [32] (by omega) (by omega)
 unfold xD;simp only[Xp.cells];refine w19 k (bs op) v.1 v.2.1 (bs v.2.2) (bs tb) (bs nm) sl nt ds (xcs args) ?_;have q0:(⟨#[99,97,115,101]⟩:ByteArray)=bs [99,97,115,101]:=rfl;have q1:(⟨#[119,104,101,110]⟩:ByteArray)=bs [119,104,101,110]:=rfl;have q2:(⟨#[116,104,101,110]⟩:ByteArray)=bs [116,104,101,110]:=rfl;have q3:(⟨#[101,108,115,101]⟩:ByteArray)=bs [101,108,115,101]:=rfl;have q4:(⟨#[101,110,100]⟩:ByteArray)=bs [101,110,100]:=rfl;have q5:(⟨#[32]⟩:ByteArray)=bs [32]:=rfl;rw[q0,q1,q2,q3,q4,q5];intro x11 h11;have h11:x11=scL [[99,97,115,101]]:=h11;rw[aAW];refine⟨fun hd=>?_,fun hd=>?_⟩
 · obtain⟨rfl,hd⟩:=hd
   match args,T,h,hl,hd,hWd,hsum,hlen with
   | e0::args,t0::T,h,hl,_,hWd,hsum,hlen =>
   have hW0:W=[99,97,115,101]::t0::aCy T:=hWd
   have hls:((e0::args).length:Int)=args.length+1:=by simp
   have hdr:(xcs (e0::args)).drop (1:Int).toNat=xcs args:=by simp[xcs]
   rw[xs_D _ (0:Int) (by omega) (by omega)];refine⟨⟨by omega,by omega⟩,aA2 _,xs_k _ _ (by omega) (by omega),_,h.head.2,fun x13 h13=>⟨?_,fun x14 h14=>⟨⟨by omega,by omega,by omega⟩,aA2 _,?_⟩⟩⟩
   · rw[h13,h11,aDI]
     simp
   have h14:x14=scL [[99,97,115,101],t0]:=by rw[h14,h13,h11]; rfl
   subst h14;rw[hdr];refine⟨fun rows m n=>∃ (pre:List (List UInt8)) (l:List Xp) (U:List (List UInt8)),rows=scL pre∧m=xcs l∧PrL l U∧pre++aCy U=W∧n=l.length,⟨_,[[99,97,115,101],t0],args,T,rfl,rfl,h.tail,hW0.symm,rfl⟩,?_⟩;rintro n rows m ⟨pre,l,U,rfl,rfl,hP,hW,rfl⟩
   have hpl:pre.length+(aCy U).length=W.length:=by rw[←hW,List.length_append]
   rw[aAW,aDI];refine⟨fun h1=>?_,fun h1=>⟨fun h2=>?_,fun h2=>?_⟩⟩
   · match l,U,hP,hW,hpl,h1 with
     | c::r::l',a::b::U',hP,hW,hpl,_ =>
      have hd:(xcs (c::r::l')).drop (2:Int).toNat=xcs l':=by simp[xcs]
      have hls:((c::r::l').length:Int)=l'.length+2:=by simp only[List.length_cons]; omega
      simp only[aCy,List.length_cons] at hpl;rw[xs_D _ (0:Int) (by omega) (by omega),xs_D _ (1:Int) (by omega) (by omega),hd];refine⟨⟨by omega,by omega⟩,aA2 _,xs_k _ _ (by omega) (by omega),_,hP.head.2,⟨by omega,by omega⟩,aA2 _,xs_k _ _ (by omega) (by omega),_,hP.tail.head.2,fun x19 h19=>⟨?_,fun x20 h20=>⟨⟨by omega,by omega,by omega⟩,aA2 _,l'.length,by simp only[List.length_cons]; omega,pre++[[119,104,101,110],a,[116,104,101,110],b],l',U',?_,rfl,hP.tail.tail,?_,rfl⟩⟩⟩
      · rw[h19];simp only[List.length_cons,List.length_nil];omega
      · rw[h20,h19,aEM];rfl
      · rw[←hW];simp[aCy]
     | [],_,_,_,_,h1=>simp at h1
     | [_],_,_,_,_,h1=>simp at h1
     | _::_::_,[],hP,_,_,_=>have:=hP.1; simp at this
     | _::_::_,[_],hP,_,_,_=>have:=hP.1; simp at this
   · match l,U,hP,hW,hpl,h2 with
     | [c],[a],hP,hW,hpl,_ =>
      simp only[aCy,List.length_cons,List.length_nil] at hpl;rw[xs_D _ (0:Int) (by omega) (by simp)];refine⟨⟨by simp,by simp⟩,aA2 _,xs_k _ _ (by omega) (by simp),_,hP.head.2,fun x18 h18=>⟨?_,fun x19 h19 x20 h20=>⟨?_,fun x21 h21=>⟨_,hjn x21 ?_,rfl⟩⟩⟩⟩
      · rw[h18];simp only[List.length_cons,List.length_nil];omega
      · rw[h19,h20,h18];simp only[List.length_append,aDI,List.length_cons,List.length_nil];omega
      · rw[h21,h20,h19,h18,←hW,aEM,List.append_assoc];rfl
     | [],_,_,_,_,h2=>simp at h2
     | _::_::_,_,_,_,_,h2=>simp at h2; omega
     | [_],[],hP,_,_,_=>have:=hP.1; simp at this
     | [_],_::_::_,hP,_,_,_=>have:=hP.1; simp at this
   · match l,U,hP,hW,hpl,h1,h2 with
     | [],[],hP,hW,hpl,_,_ =>
      simp only[aCy,List.length_cons,List.length_nil] at hpl;refine fun x17 h17=>⟨?_,fun x18 h18=>⟨_,hjn x18 ?_,rfl⟩⟩
      · rw[h17];simp only[List.length_cons,List.length_nil];omega
      · rw[h18,h17,←hW,aEM];rfl
     | [_],_,_,_,_,_,h2=>simp at h2
     | _::_::_,_,_,_,_,h1,_=>simp at h1; omega
     | [],_::_,hP,_,_,_,_=>have:=hP.1; simp at this
   | [],_,_,_,hd,_,_,_=>simp at hd
   | _::_,[],_,hl,_,_,_,_=>simp at hl
 · subst h11
   have hW0:W=[99,97,115,101]::aCy T:=by
    rw[hWd];unfold aLw;split
    · rename_i t r;exact absurd ⟨rfl,by have:=h.1; simp only[List.length_cons] at this; omega⟩ hd
    · rfl
   refine⟨fun rows m n=>∃ (pre:List (List UInt8)) (l:List Xp) (U:List (List UInt8)),rows=scL pre∧m=xcs l∧PrL l U∧pre++aCy U=W∧n=l.length,⟨_,[[99,97,115,101]],args,T,rfl,rfl,h,hW0.symm,rfl⟩,?_⟩;rintro n rows m ⟨pre,l,U,rfl,rfl,hP,hW,rfl⟩
   have hpl:pre.length+(aCy U).length=W.length:=by rw[←hW,List.length_append]
   rw[aAW,aDI];refine⟨fun h1=>?_,fun h1=>⟨fun h2=>?_,fun h2=>?_⟩⟩
   · match l,U,hP,hW,hpl,h1 with
     | c::r::l',a::b::U',hP,hW,hpl,_ =>
      have hd:(xcs (c::r::l')).drop (2:Int).toNat=xcs l':=by simp[xcs]
      have hls:((c::r::l').length:Int)=l'.length+2:=by simp only[List.length_cons]; omega
      simp only[aCy,List.length_cons] at hpl;rw[xs_D _ (0:Int) (by omega) (by omega),xs_D _ (1:Int) (by omega) (by omega),hd];refine⟨⟨by omega,by omega⟩,aA2 _,xs_k _ _ (by omega) (by omega),_,hP.head.2,⟨by omega,by omega⟩,aA2 _,xs_k _ _ (by omega) (by omega),_,hP.tail.head.2,fun x19 h19=>⟨?_,fun x20 h20=>⟨⟨by omega,by omega,by omega⟩,aA2 _,l'.length,by simp only[List.length_cons]; omega,pre++[[119,104,101,110],a,[116,104,101,110],b],l',U',?_,rfl,hP.tail.tail,?_,rfl⟩⟩⟩
      · rw[h19];simp only[List.length_cons,List.length_nil];omega
      · rw[h20,h19,aEM];rfl
      · rw[←hW];simp[aCy]
     | [],_,_,_,_,h1=>simp at h1
     | [_],_,_,_,_,h1=>simp at h1
     | _::_::_,[],hP,_,_,_=>have:=hP.1; simp at this
     | _::_::_,[_],hP,_,_,_=>have:=hP.1; simp at this
   · match l,U,hP,hW,hpl,h2 with
     | [c],[a],hP,hW,hpl,_ =>
      simp only[aCy,List.length_cons,List.length_nil] at hpl;rw[xs_D _ (0:Int) (by omega) (by simp)];refine⟨⟨by simp,by simp⟩,aA2 _,xs_k _ _ (by omega) (by simp),_,hP.head.2,fun x18 h18=>⟨?_,fun x19 h19 x20 h20=>⟨?_,fun x21 h21=>⟨_,hjn x21 ?_,rfl⟩⟩⟩⟩
      · rw[h18];simp only[List.length_cons,List.length_nil];omega
      · rw[h19,h20,h18];simp only[List.length_append,aDI,List.length_cons,List.length_nil];omega
      · rw[h21,h20,h19,h18,←hW,aEM,List.append_assoc];rfl
     | [],_,_,_,_,h2=>simp at h2
     | _::_::_,_,_,_,_,h2=>simp at h2; omega
     | [_],[],hP,_,_,_=>have:=hP.1; simp at this
     | [_],_::_::_,hP,_,_,_=>have:=hP.1; simp at this
   · match l,U,hP,hW,hpl,h1,h2 with
     | [],[],hP,hW,hpl,_,_ =>
      simp only[aCy,List.length_cons,List.length_nil] at hpl;refine fun x17 h17=>⟨?_,fun x18 h18=>⟨_,hjn x18 ?_,rfl⟩⟩
      · rw[h17];simp only[List.length_cons,List.length_nil];omega
      · rw[h18,h17,←hW,aEM];rfl
     | [_],_,_,_,_,_,h2=>simp at h2
     | _::_::_,_,_,_,_,h1,_=>simp at h1; omega
     | [],_::_,hP,_,_,_,_=>have:=hP.1; simp at this
end
end
section
open Go.RowKit Go.IntWalk
theorem aNR (v:V3) (h:I64 v.2.1):(aDn v).length≤2*v.2.2.length+30:=by
 have l1:=aMs v.2.2;have l2:=aIU v.2.2;have l3:=aDb v.2.1 h;unfold aDn;split
 · simp
 · split
   · omega
   · split
     · simp only[List.length_cons,List.length_append,List.length_nil]; omega
     · split
       · simp only[List.length_cons,List.length_append,List.length_nil]; omega
       · simp
section
variable {k:Int} {op:List UInt8} {v:V3} {tb nm:List UInt8} {sl:Int} {nt ds:Bool} {args:List Xp}
theorem aS0 (T:List (List UInt8)):(T.getD 0 []).length≤sumL T:=by
 have:=aJA T
 omega
theorem aLJ {T:List (List UInt8)} (h:PrL args T) (hop:Sm op) (hb:plXs args≤1000000000) : ∃ t,t.length≤60+op.length+plXs args∧FnC Tryz.prog 20 [xD (.mk k op v tb nm sl nt ds args)] (sD t):=by
 have hl:=h.1;have hsum:=h.sum;have h0:=aS0 T;have hj:=aEV T [44,32];simp only[List.length_cons,List.length_nil] at hj;unfold Sm at hop;have hp:FnC Tryz.prog 21 [xD (.mk k op v tb nm sl nt ds args),iD 0] (xD (args.getD 0 nulX)):=aPT k op v tb nm sl nt ds args 0;have hr:=aLT h 0;have hlist:=aL7 h hb;generalize args.getD 0 nulX=x at hp hr;obtain⟨k2,op2,v2,tb2,nm2,sl2,nt2,ds2,args2⟩:=x;unfold xD at hp hr ⊢;simp only[Xp.cells] at hp hr ⊢;have q1:(⟨#[40,42,41]⟩:ByteArray)=bs [40,42,41]:=rfl;have q2:(⟨#[40,100,105,115,116,105,110,99,116,32]⟩:ByteArray)=bs [40,100,105,115,116,105,110,99,116,32]:=rfl;have q3:(⟨#[40]⟩:ByteArray)=bs [40]:=rfl;have q4:(⟨#[41]⟩:ByteArray)=bs [41]:=rfl;have hw:=fun (t:List UInt8)=>@w20 k (bs op) v.1 v.2.1 (bs v.2.2) (bs tb) (bs nm) sl nt ds (xcs args) (sD t);rw[q1,q2,q3,q4] at hw;simp only[aAW] at hw;by_cases h10:k=10
 · refine⟨op++([40]++Lib.join T [44,32]++[41]),by (first | (simp only[List.length_append,List.length_cons,List.length_nil]; omega) | omega),hw _ ⟨fun _=>⟨_,hlist,?_,?_⟩,fun hn=>absurd h10 hn⟩⟩
   · simp only[aAg]; (first | (simp only[List.length_append,List.length_cons,List.length_nil]; omega) | omega)
   · simp only[aAi]
 · by_cases hz:(args.length:Int)=0
   · refine⟨op++[40,42,41],by (first | (simp only[List.length_append,List.length_cons,List.length_nil]; omega) | omega),hw _ ⟨fun hn=>absurd hn h10,fun _=>⟨fun _=>⟨?_,?_⟩,fun hn=>absurd hz hn⟩⟩⟩
     · simp only[aAg]; (first | (simp only[List.length_append,List.length_cons,List.length_nil]; omega) | omega)
     · simp only[aAi]
   · by_cases hd:ds=true
     · refine⟨op++[40,100,105,115,116,105,110,99,116,32]++T.getD 0 []++[41],by (first | (simp only[List.length_append,List.length_cons,List.length_nil]; omega) | omega),hw _ ⟨fun hn=>absurd hn h10,fun _=>⟨fun hn=>absurd hn hz,fun _=>⟨fun _=>⟨?_,_,_,_,_,_,_,_,_,_,_,_,hp,_,hr,?_,?_,?_⟩,fun hn=>absurd hd hn⟩⟩⟩⟩
       all_goals first | (simp only[aAi,aAg]; (first | (simp only[List.length_append,List.length_cons,List.length_nil]; omega) | omega)) | simp only[aAi]
     · refine⟨op++[40]++T.getD 0 []++[41],by (first | (simp only[List.length_append,List.length_cons,List.length_nil]; omega) | omega),hw _ ⟨fun hn=>absurd hn h10,fun _=>⟨fun hn=>absurd hn hz,fun _=>⟨fun hn=>absurd hn hd,fun _=>⟨?_,_,_,_,_,_,_,_,_,_,_,_,hp,_,hr,?_,?_,?_⟩⟩⟩⟩⟩
       all_goals first | (simp only[aAi,aAg]; (first | (simp only[List.length_append,List.length_cons,List.length_nil]; omega) | omega)) | simp only[aAi]
set_option maxHeartbeats 4000000 in
theorem aRe {T:List (List UInt8)} (h:PrL args T) (hop:Sm op) (hv:I64 v.2.1∧Sm v.2.2) (htb:Sm tb) (hnm:Sm nm) (hb:plXs args≤1000000000) : ∃ t,t.length≤100+op.length+2*v.2.2.length+tb.length+nm.length+plXs args∧FnC Tryz.prog 7 [xD (.mk k op v tb nm sl nt ds args)] (sD t):=by
 have hl:=h.1;have hsum:=h.sum;have h3:=aJA T;have hcs:=aJp ds T;have hjc:=aEV (aLw ds T) [32];simp only[List.length_cons,List.length_nil] at hjc;have hql:=aNR v hv.1;have hq:=aIR v hv.1 hv.2;obtain⟨tc,htc,hcall⟩:=aLJ (k:=k) (v:=v) (tb:=tb) (nm:=nm) (sl:=sl) (nt:=nt) (ds:=ds) h hop hb;have hcase:=aLo (k:=k) (op:=op) (v:=v) (tb:=tb) (nm:=nm) (sl:=sl) (nt:=nt) (ds:=ds) h hb;have hi0:FnC Tryz.prog 16 [xD (.mk k op v tb nm sl nt ds args),iD 0] (sD (aBj k (args.getD 0 nulX) (T.getD 0 []))):=aGX h hb 0;have hi1:FnC Tryz.prog 16 [xD (.mk k op v tb nm sl nt ds args),iD 1] (sD (aBj k (args.getD 1 nulX) (T.getD 1 []))):=aGX h hb 1;have hi2:FnC Tryz.prog 16 [xD (.mk k op v tb nm sl nt ds args),iD 2] (sD (aBj k (args.getD 2 nulX) (T.getD 2 []))):=aGX h hb 2;have l0:=aFy k (args.getD 0 nulX) (T.getD 0 []);have l1:=aFy k (args.getD 1 nulX) (T.getD 1 []);have l2:=aFy k (args.getD 2 nulX) (T.getD 2 []);have c_not6:=aTP (k:=k) (op:=op) (v:=v) (tb:=tb) (nm:=nm) (sl:=sl) (nt:=nt) (ds:=ds) (args:=args) [105,110] (by decide);have c_not7:=aTP (k:=k) (op:=op) (v:=v) (tb:=tb) (nm:=nm) (sl:=sl) (nt:=nt) (ds:=ds) (args:=args) [98,101,116,119,101,101,110] (by decide);have c_not8:=aTP (k:=k) (op:=op) (v:=v) (tb:=tb) (nm:=nm) (sl:=sl) (nt:=nt) (ds:=ds) (args:=args) [108,105,107,101] (by decide);have n6:=aI7 nt [105,110];have n7:=aI7 nt [98,101,116,119,101,101,110];have n8:=aI7 nt [108,105,107,101];simp only[List.length_cons,List.length_nil] at n6 n7 n8;have hp:FnC Tryz.prog 21 [xD (.mk k op v tb nm sl nt ds args),iD 0] (xD (args.getD 0 nulX)):=aPT k op v tb nm sl nt ds args 0;have hr:=aLT h 0
 have hdr:PrL (args.drop 1) (T.drop 1)∧sumL (T.drop 1)+(T.getD 0 []).length=sumL T∧plXs (args.drop 1)≤plXs args∧(xcs args).drop (if decide ((args.length:Int)<1) then (args.length:Int) else (1:Int)).toNat=xcs (args.drop 1):=by
  match args,T,h with
  | [],[],h=>exact⟨h,by simp[sumL],by simp,rfl⟩
  | e::args,t::T,h =>
   refine⟨h.tail,by simp[sumL]; omega,by simp[plXs],?_⟩
   have : ¬ (((e::args).length:Int)<1):=by simp only[List.length_cons]; omega
   simp only[this,decide_false,Bool.false_eq_true,if_false];simp[xcs]
  | [],_::_,h=>have:=h.1; simp at this
  | _::_,[],h=>have:=h.1; simp at this
 have hdrop:=aL7 hdr.1 (by omega);rw[←hdr.2.2.2] at hdrop;have hjd:=aEV (T.drop 1) [44,32];simp only[List.length_cons,List.length_nil,List.length_drop] at hjd;have hds:=hdr.2.1;generalize args.getD 0 nulX=x0 at hp hr hi0 l0 ⊢;obtain⟨k2,op2,v2,tb2,nm2,sl2,nt2,ds2,args2⟩:=x0;unfold Sm at hop hv htb hnm;have hw:=fun (t:List UInt8)=>@w7 k (bs op) v.1 v.2.1 (bs v.2.2) (bs tb) (bs nm) sl nt ds (xcs args) (sD t);unfold xD at hp hr hi0 hi1 hi2 hcall hcase c_not6 c_not7 c_not8 ⊢;simp only[Xp.cells] at hp hr hi0 hi1 hi2 hcall hcase c_not6 c_not7 c_not8 ⊢;have q0:(⟨#[46]⟩:ByteArray)=bs [46]:=rfl;have q1:(⟨#[110,111,116]⟩:ByteArray)=bs [110,111,116]:=rfl;have q2:(⟨#[110,111,116,32]⟩:ByteArray)=bs [110,111,116,32]:=rfl;have q3:(⟨#[32]⟩:ByteArray)=bs [32]:=rfl;have q4:(⟨#[32,105,115,32,110,111,116,32]⟩:ByteArray)=bs [32,105,115,32,110,111,116,32]:=rfl;have q5:(⟨#[32,105,115,32]⟩:ByteArray)=bs [32,105,115,32]:=rfl;have q6:(⟨#[105,110]⟩:ByteArray)=bs [105,110]:=rfl;have q7:(⟨#[98,101,116,119,101,101,110]⟩:ByteArray)=bs [98,101,116,119,101,101,110]:=rfl;have q8:(⟨#[32,97,110,100,32]⟩:ByteArray)=bs [32,97,110,100,32]:=rfl;have q9:(⟨#[108,105,107,101]⟩:ByteArray)=bs [108,105,107,101]:=rfl;have q10:(⟨#[99,97,115,116,40]⟩:ByteArray)=bs [99,97,115,116,40]:=rfl;have q11:(⟨#[32,97,115,32]⟩:ByteArray)=bs [32,97,115,32]:=rfl;have q12:(⟨#[41]⟩:ByteArray)=bs [41]:=rfl;have q13:(⟨#[]⟩:ByteArray)=bs []:=rfl;simp only[q0,q1,q2,q3,q4,q5,q6,q7,q8,q9,q10,q11,q12,q13] at hw;simp only[aAW] at hw;clear hdr;by_cases h1:k=1
 · exact⟨aDn v,by omega,hw _ ⟨fun _=>⟨_,hq,rfl⟩,fun hn=>absurd h1 hn⟩⟩
 by_cases h2:k=2
 · by_cases ht:tb=[]
   · refine⟨nm,by omega,hw _ ⟨fun hn=>absurd hn h1,fun _=>⟨fun _=>⟨fun hn=>absurd ((aAu _ _).2 ht) hn,fun _=>rfl⟩,fun hn=>absurd h2 hn⟩⟩⟩
   · refine⟨tb++[46]++nm,by (first | (simp only[List.length_append,List.length_cons,List.length_nil]; omega) | omega),hw _ ⟨fun hn=>absurd hn h1,fun _=>⟨fun _=>⟨fun _=>⟨?_,?_,?_⟩,fun hn=>absurd (fun e=>ht ((aAu _ _).1 e)) hn⟩,fun hn=>absurd h2 hn⟩⟩⟩
     all_goals first | (simp only[aAi,aAg]; (first | (simp only[List.length_append,List.length_cons,List.length_nil]; omega) | omega)) | simp only[aAi]
 by_cases h3:k=3
 · by_cases ht:op=[110,111,116]
   · refine⟨[110,111,116,32]++(aBj k (.mk k2 op2 v2 tb2 nm2 sl2 nt2 ds2 args2) (T.getD 0 [])),by (first | (simp only[List.length_append,List.length_cons,List.length_nil]; omega) | omega),hw _ ⟨fun hn=>absurd hn h1,fun _=>⟨fun hn=>absurd hn h2,fun _=>⟨fun _=>⟨fun _=>⟨_,hi0,?_,?_⟩,fun hn=>absurd ((aAu _ _).2 ht) hn⟩,fun hn=>absurd h3 hn⟩⟩⟩⟩
     all_goals first | (simp only[aAi,aAg]; (first | (simp only[List.length_append,List.length_cons,List.length_nil]; omega) | omega)) | simp only[aAi]
   · refine⟨op++(aBj k (.mk k2 op2 v2 tb2 nm2 sl2 nt2 ds2 args2) (T.getD 0 [])),by (first | (simp only[List.length_append,List.length_cons,List.length_nil]; omega) | omega),hw _ ⟨fun hn=>absurd hn h1,fun _=>⟨fun hn=>absurd hn h2,fun _=>⟨fun _=>⟨fun hn=>absurd ((aAu _ _).1 hn) ht,fun _=>⟨_,hi0,?_,?_⟩⟩,fun hn=>absurd h3 hn⟩⟩⟩⟩
     all_goals first | (simp only[aAi,aAg]; (first | (simp only[List.length_append,List.length_cons,List.length_nil]; omega) | omega)) | simp only[aAi]
 by_cases h4:k=4
 · refine⟨(aBj k (.mk k2 op2 v2 tb2 nm2 sl2 nt2 ds2 args2) (T.getD 0 []))++[32]++op++[32]++(aBj k (args.getD 1 nulX) (T.getD 1 [])),by (first | (simp only[List.length_append,List.length_cons,List.length_nil]; omega) | omega),hw _ ⟨fun hn=>absurd hn h1,fun _=>⟨fun hn=>absurd hn h2,fun _=>⟨fun hn=>absurd hn h3,fun _=>⟨fun _=>⟨_,hi0,?_,?_,?_,_,hi1,?_,?_⟩,fun hn=>absurd h4 hn⟩⟩⟩⟩⟩
   all_goals first | (simp only[aAi,aAg]; (first | (simp only[List.length_append,List.length_cons,List.length_nil]; omega) | omega)) | simp only[aAi]
 by_cases h5:k=5
 · by_cases ht:nt=true
   · refine⟨(aBj k (.mk k2 op2 v2 tb2 nm2 sl2 nt2 ds2 args2) (T.getD 0 []))++[32,105,115,32,110,111,116,32]++(aBj k (args.getD 1 nulX) (T.getD 1 [])),by (first | (simp only[List.length_append,List.length_cons,List.length_nil]; omega) | omega),hw _ ⟨fun hn=>absurd hn h1,fun _=>⟨fun hn=>absurd hn h2,fun _=>⟨fun hn=>absurd hn h3,fun _=>⟨fun hn=>absurd hn h4,fun _=>⟨fun _=>⟨fun _=>⟨_,hi0,?_,_,hi1,?_,?_⟩,fun hn=>absurd ht hn⟩,fun hn=>absurd h5 hn⟩⟩⟩⟩⟩⟩
     all_goals first | (simp only[aAi,aAg]; (first | (simp only[List.length_append,List.length_cons,List.length_nil]; omega) | omega)) | simp only[aAi]
   · refine⟨(aBj k (.mk k2 op2 v2 tb2 nm2 sl2 nt2 ds2 args2) (T.getD 0 []))++[32,105,115,32]++(aBj k (args.getD 1 nulX) (T.getD 1 [])),by (first | (simp only[List.length_append,List.length_cons,List.length_nil]; omega) | omega),hw _ ⟨fun hn=>absurd hn h1,fun _=>⟨fun hn=>absurd hn h2,fun _=>⟨fun hn=>absurd hn h3,fun _=>⟨fun hn=>absurd hn h4,fun _=>⟨fun _=>⟨fun hn=>absurd hn ht,fun _=>⟨_,hi0,?_,_,hi1,?_,?_⟩⟩,fun hn=>absurd h5 hn⟩⟩⟩⟩⟩⟩
     all_goals first | (simp only[aAi,aAg]; (first | (simp only[List.length_append,List.length_cons,List.length_nil]; omega) | omega)) | simp only[aAi]
 by_cases h6:k=6
 · refine⟨(aBj k (.mk k2 op2 v2 tb2 nm2 sl2 nt2 ds2 args2) (T.getD 0 []))++notT nt [105,110]++([40]++Lib.join (T.drop 1) [44,32]++[41]),by (first | (simp only[List.length_append,List.length_cons,List.length_nil]; omega) | omega),hw _ ⟨fun hn=>absurd hn h1,fun _=>⟨fun hn=>absurd hn h2,fun _=>⟨fun hn=>absurd hn h3,fun _=>⟨fun hn=>absurd hn h4,fun _=>⟨fun hn=>absurd hn h5,fun _=>⟨fun _=>⟨_,hi0,_,c_not6,?_,?_,aA2 _,_,hdrop,?_,?_⟩,fun hn=>absurd h6 hn⟩⟩⟩⟩⟩⟩⟩
   · rw[aAg,aAg]; omega
   · by_cases e:((args.length:Int)<1)
     · simp only[e,decide_true,if_true]; omega
     · simp only[e,decide_false,Bool.false_eq_true,if_false]; omega
   · simp only[aAi,aAg]; (first | (simp only[List.length_append,List.length_cons,List.length_nil]; omega) | omega)
   · simp only[aAi]
 by_cases h7:k=7
 · refine⟨(aBj k (.mk k2 op2 v2 tb2 nm2 sl2 nt2 ds2 args2) (T.getD 0 []))++notT nt [98,101,116,119,101,101,110]++(aBj k (args.getD 1 nulX) (T.getD 1 []))++[32,97,110,100,32]++(aBj k (args.getD 2 nulX) (T.getD 2 [])),by (first | (simp only[List.length_append,List.length_cons,List.length_nil]; omega) | omega),hw _ ⟨fun hn=>absurd hn h1,fun _=>⟨fun hn=>absurd hn h2,fun _=>⟨fun hn=>absurd hn h3,fun _=>⟨fun hn=>absurd hn h4,fun _=>⟨fun hn=>absurd hn h5,fun _=>⟨fun hn=>absurd hn h6,fun _=>⟨fun _=>⟨_,hi0,_,c_not7,?_,_,hi1,?_,?_,_,hi2,?_,?_⟩,fun hn=>absurd h7 hn⟩⟩⟩⟩⟩⟩⟩⟩
   all_goals first | (simp only[aAi,aAg]; (first | (simp only[List.length_append,List.length_cons,List.length_nil]; omega) | omega)) | simp only[aAi]
 by_cases h8:k=8
 · refine⟨(aBj k (.mk k2 op2 v2 tb2 nm2 sl2 nt2 ds2 args2) (T.getD 0 []))++notT nt [108,105,107,101]++(aBj k (args.getD 1 nulX) (T.getD 1 [])),by (first | (simp only[List.length_append,List.length_cons,List.length_nil]; omega) | omega),hw _ ⟨fun hn=>absurd hn h1,fun _=>⟨fun hn=>absurd hn h2,fun _=>⟨fun hn=>absurd hn h3,fun _=>⟨fun hn=>absurd hn h4,fun _=>⟨fun hn=>absurd hn h5,fun _=>⟨fun hn=>absurd hn h6,fun _=>⟨fun hn=>absurd hn h7,fun _=>⟨fun _=>⟨_,hi0,_,c_not8,?_,_,hi1,?_,?_⟩,fun hn=>absurd h8 hn⟩⟩⟩⟩⟩⟩⟩⟩⟩
   all_goals first | (simp only[aAi,aAg]; (first | (simp only[List.length_append,List.length_cons,List.length_nil]; omega) | omega)) | simp only[aAi]
 by_cases h9:k=9
 · exact⟨_,by omega,hw _ ⟨fun hn=>absurd hn h1,fun _=>⟨fun hn=>absurd hn h2,fun _=>⟨fun hn=>absurd hn h3,fun _=>⟨fun hn=>absurd hn h4,fun _=>⟨fun hn=>absurd hn h5,fun _=>⟨fun hn=>absurd hn h6,fun _=>⟨fun hn=>absurd hn h7,fun _=>⟨fun hn=>absurd hn h8,fun _=>⟨fun _=>⟨_,hcase,rfl⟩,fun hn=>absurd h9 hn⟩⟩⟩⟩⟩⟩⟩⟩⟩⟩
 by_cases h10:k=10
 · exact⟨tc,by omega,hw _ ⟨fun hn=>absurd hn h1,fun _=>⟨fun hn=>absurd hn h2,fun _=>⟨fun hn=>absurd hn h3,fun _=>⟨fun hn=>absurd hn h4,fun _=>⟨fun hn=>absurd hn h5,fun _=>⟨fun hn=>absurd hn h6,fun _=>⟨fun hn=>absurd hn h7,fun _=>⟨fun hn=>absurd hn h8,fun _=>⟨fun hn=>absurd hn h9,fun _=>⟨fun _=>⟨_,hcall,rfl⟩,fun hn=>absurd h10 hn⟩⟩⟩⟩⟩⟩⟩⟩⟩⟩⟩
 by_cases h11:k=11
 · exact⟨tc,by omega,hw _ ⟨fun hn=>absurd hn h1,fun _=>⟨fun hn=>absurd hn h2,fun _=>⟨fun hn=>absurd hn h3,fun _=>⟨fun hn=>absurd hn h4,fun _=>⟨fun hn=>absurd hn h5,fun _=>⟨fun hn=>absurd hn h6,fun _=>⟨fun hn=>absurd hn h7,fun _=>⟨fun hn=>absurd hn h8,fun _=>⟨fun hn=>absurd hn h9,fun _=>⟨fun hn=>absurd hn h10,fun _=>⟨fun _=>⟨_,hcall,rfl⟩,fun hn=>absurd h11 hn⟩⟩⟩⟩⟩⟩⟩⟩⟩⟩⟩⟩
 by_cases h12:k=12
 · refine⟨[99,97,115,116,40]++T.getD 0 []++[32,97,115,32]++op++[41],by (first | (simp only[List.length_append,List.length_cons,List.length_nil]; omega) | omega),hw _ ⟨fun hn=>absurd hn h1,fun _=>⟨fun hn=>absurd hn h2,fun _=>⟨fun hn=>absurd hn h3,fun _=>⟨fun hn=>absurd hn h4,fun _=>⟨fun hn=>absurd hn h5,fun _=>⟨fun hn=>absurd hn h6,fun _=>⟨fun hn=>absurd hn h7,fun _=>⟨fun hn=>absurd hn h8,fun _=>⟨fun hn=>absurd hn h9,fun _=>⟨fun hn=>absurd hn h10,fun _=>⟨fun hn=>absurd hn h11,fun _=>⟨fun _=>⟨_,_,_,_,_,_,_,_,_,_,_,hp,_,hr,?_,?_,?_,?_,?_⟩,fun hn=>absurd h12 hn⟩⟩⟩⟩⟩⟩⟩⟩⟩⟩⟩⟩⟩
   all_goals first | (simp only[aAi,aAg]; (first | (simp only[List.length_append,List.length_cons,List.length_nil]; omega) | omega)) | simp only[aAi]
 exact⟨[],by simp,hw _ ⟨fun hn=>absurd hn h1,fun _=>⟨fun hn=>absurd hn h2,fun _=>⟨fun hn=>absurd hn h3,fun _=>⟨fun hn=>absurd hn h4,fun _=>⟨fun hn=>absurd hn h5,fun _=>⟨fun hn=>absurd hn h6,fun _=>⟨fun hn=>absurd hn h7,fun _=>⟨fun hn=>absurd hn h8,fun _=>⟨fun hn=>absurd hn h9,fun _=>⟨fun hn=>absurd hn h10,fun _=>⟨fun hn=>absurd hn h11,fun _=>⟨fun hn=>absurd hn h12,fun _=>rfl⟩⟩⟩⟩⟩⟩⟩⟩⟩⟩⟩⟩⟩
end
mutual
theorem aPS : ∀ e:Xp,Fv e→plX e≤1000000000→∃ t,t.length≤plX e∧FnC Tryz.prog 7 [xD e] (sD t)
 | .mk k op v tb nm sl nt ds args,h,hb=>by
  simp only[Fv] at h;simp only[plX] at hb ⊢;obtain⟨T,hT⟩:=aMC args h.2.2.2 (by omega);exact aRe hT h.2.1.1 h.1.2.1.2 h.2.1.2.1 h.2.1.2.2 (by omega)
theorem aMC : ∀ l:List Xp,Fvs l→plXs l≤1000000000→∃ T,PrL l T
 | [],_,_=>⟨[],rfl,fun i h=>by simp at h⟩
 | e::l,hf,hb=>by
  simp only[Fvs] at hf;simp only[plXs] at hb;obtain⟨t,h1,h2⟩:=aPS e hf.1 (by omega);obtain⟨T,hT⟩:=aMC l hf.2 (by omega);refine⟨t::T,by simp[hT.1],fun i h=>?_⟩
  cases i with
  | zero=>exact⟨h1,h2⟩
  | succ i=>exact hT.2 i (by simpa using h)
end
end
section
open Go.RowKit Go.IntWalk
def anyN (L:List V3):Bool:=L.any (fun v=>v.1==0)
section
variable {op:List UInt8} (hop:Sm op) {L:List V3} (hl:L.length≤1000000) (hk:aCm (aAn op) L.length=true) (hb:badV L=0)
include hop hl hk hb
theorem aQb (r:V3×Int) (h:FnC Tryz.prog 83 [sD (aAn op),.c (.vs (vc L))] (.tup [vD r.1,iD r.2,bD true])) (e:aLY (aAn op) L=r):FnC Tryz.prog 59 [sD op,.c (.vs (vc L))] (tupR (resC op L)):=by
 have:=aNa op hop L hl r.1 r.2 true nul 0 (fun _ _=>h) (fun _ _ h=>by cases h)
 rw[aOp,if_pos hk,if_pos hb,if_pos rfl,aSD] at this;rw[resC,if_pos hk,if_pos hb,e];exact this
theorem aPG (r s:V3×Int) (hf:aAn op≠aCQ∧aAn op≠aEr∧aAn op≠aBE∧aAn op≠aCN∧aAn op≠aCL∧aAn op≠aC9)
 (h:anyN L=false→FnC Tryz.prog 84 [sD (aAn op),.c (.vs (vc L))] (tupR r)) (hs:fitP r=fitP s) (e:sevV (aAn op) L=s):FnC Tryz.prog 59 [sD op,.c (.vs (vc L))] (tupR (resC op L)):=by
 have:=aNa op hop L hl nul 0 false r.1 r.2 (fun _ _=>aN6 (aAn op) L hf) (fun _ _ _ hn=>h hn)
 rw[aOp,if_pos hk,if_pos hb,if_neg (by simp),aSD] at this;obtain⟨h1,h2,h3,h4,h5,h6⟩:=hf;rw[resC,if_pos hk,if_pos hb,aLY,if_neg h1,if_neg h2,if_neg h6,if_neg (fun x=>x.elim h3 h4),if_neg h5];by_cases hn:L.any (fun v=>v.1==0)=true
 · rw[if_pos hn] at this ⊢;exact this
 · rw[if_neg hn] at this ⊢;rw[e,←hs];exact this
end
theorem aTA (op:List UInt8) (hop:Sm op) (L:List V3) (hl:L.length≤1000000) (hV : ∀ v∈L,Vs v):FnC Tryz.prog 59 [sD op,.c (.vs (vc L))] (tupR (resC op L)):=by
 by_cases hk:aCm (aAn op) L.length=true
 case neg =>
  have:=aNa op hop L hl nul 0 true nul 0 (fun h=>absurd h hk) (fun h=>absurd h hk)
  rw[aOp,if_neg hk] at this;rw[resC,if_neg hk];exact this
 by_cases hb:badV L=0
 case neg =>
  have:=aNa op hop L hl nul 0 true nul 0 (fun _ h=>absurd h hb) (fun _ h=>absurd h hb)
  rw[aOp,if_pos hk,if_neg hb] at this;rw[resC,if_pos hk,if_neg hb];exact this
 have CO:=fun r=>aQb hop hl hk hb r;have CC:=fun r s=>aPG hop hl hk hb r s;generalize aAn op=f at *;rcases aPH f _ hk with h | h | h | h | h | h | h | h | h
 · obtain⟨v,rfl⟩:=aVF (aO9 f _ hk h);have hv:=hV v (by simp);simp only[ones,List.mem_cons,List.not_mem_nil,or_false] at h;rcases h with rfl | rfl | rfl | rfl | rfl | rfl | rfl | rfl | rfl | rfl | rfl
   · exact CC _ _ (by decide) (fun _=>aGL v [] hv wAbs (.inl rfl)) rfl rfl
   · exact CC _ _ (by decide) (fun _=>aGL v [] hv aGe (.inr rfl)) rfl rfl
   · exact CC _ _ (by decide) (fun _=>aIN v [] hv) rfl rfl
   · exact CC _ _ (by decide) (fun _=>aJP v [] hv) rfl rfl
   · exact CC _ _ (by decide) (fun _=>aJU v [] hv) rfl rfl
   · exact CC _ _ (by decide) (fun _=>aLU v [] hv) rfl rfl
   · exact CC _ _ (by decide) (fun _=>aKh v [] hv) rfl rfl
   · exact CC _ _ (by decide) (fun _=>aKl v [] hv) rfl rfl
   · exact CC _ _ (by decide) (fun _=>aNE v [] hv) rfl rfl
   · exact CO (txt (aDn v)) (aJX v [] hv) rfl
   · exact CO (txt (aPU v.1)) (aIT v []) rfl
 · subst h;obtain⟨v,a,rfl⟩:=aTj (aG3 _ _ hk (by simp));exact CC _ _ (by decide) (fun _=>aIO v a (hV v (by simp)) (hV a (by simp))) rfl rfl
 · subst h;exact CO (aCA L,0) (aFX aCN L hl (.inr rfl)) rfl
 · subst h;obtain⟨v,a,rfl⟩:=aTj (aG3 _ _ hk (by simp))
   exact CO (if cmpV v a 0=0 then nul else v,0) (aI4 v a (hV v (by simp)) (hV a (by simp))) rfl
 · subst h;obtain⟨v,a,rfl⟩:=aTj (aG3 _ _ hk (by simp));exact CC _ _ (by decide) (fun _=>aLc v a (hV v (by simp)) (hV a (by simp))) rfl rfl
 · subst h;obtain⟨v,a,b,rfl⟩:=aVM (aLF _ hk);exact CC _ _ (by decide) (fun _=>aHK v a b (hV v (by simp)) (hV a (by simp)) (hV b (by simp))) (aRw _ _ _ (aRs _ _ _)) rfl
 · subst h
   match L,aP0 _ hk with
   | [],h=>simp at h
   | v::R,h =>
    exact CC _ _ (by decide) (fun _=>aIS v R (hV v (by simp)) (fun a ha=>hV a (by simp[ha])) (by simp only[List.length_cons] at h; omega)) rfl rfl
 · subst h;exact CO (aCA L,0) (aFX aBE L hl (.inl rfl)) rfl
 · subst h;exact CO (catR L) (aOk L hV hl) rfl
end
end Go.Proofs.YtcdeimjlgpfjiaaGreatDoor
