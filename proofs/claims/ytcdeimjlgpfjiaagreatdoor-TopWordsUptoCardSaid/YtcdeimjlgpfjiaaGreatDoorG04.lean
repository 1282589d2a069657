/- A symbolic run of Go code: append. No condition. -/
import Derived.Test.YtcdeimjlgpfjiaaGreatDoorG03
import Derived.Laws.OwnMore
import Derived.Laws.IdiomStrings
set_option linter.unusedSimpArgs false
set_option linter.unusedVariables false
namespace Go.Proofs.YtcdeimjlgpfjiaaGreatDoor
section
open Go.RowKit
section
variable {P:Program} {ν:Nu} {w:World} {X:Nat→Prop} {σ:List Pl}
theorem aDA (w:World) (o:Obj):Turn none w (w.drew.alloc o):=(Turn.drew w).trans (Turn.alloc w.drew o)
theorem aOA {a:Int} {n:Nat} (h:a=(n:Int)):a.toNat=n:=by omega
theorem aFl {t xt ty e:TypeId} {i:TypeInfo} {d:TypeDesc} {z:Value} (ht:P.underlying t=some (.slice e)) (hx:P.underlying xt=some d) (hd:aBs d=true) (hi:P.info? e=some i) (hz:i.zero=some z) {sz by_:Nat} (hisz:i.size=sz) (hby:i.bytes=by_) (hzs:z.cells.size=sz) (hpos:0<sz)
 {base:Option Addr} {len rc:Nat} {x:Value} {olds news:List Value} {as_ bs:List (List CV)} (hla:as_.length=len) (hsa : ∀ el∈as_,el.length=sz) (hsb : ∀ el∈bs,el.length=sz)
 (hlo:olds.length=len*sz) (hln:news.length=bs.length*sz) (hfo:(Builtin.firstCells sz len (.slice base len rc)).run P w.drew = .ok olds.toArray w.drew)
 (hrun : ∀ w':World,w'.heap=w.heap→(Builtin.lenOf x).run P w' = .ok bs.length w'∧(Builtin.firstCells sz bs.length x).run P w' = .ok news.toArray w')
 (hg:rc<len+bs.length) (h63:((len+bs.length:Nat):Int)≤9223372036854775807) (hfit:((len+bs.length:Nat):Int)*(by_:Int)≤140737488355328)
 (ha:aFh w (Exc X σ) sz as_ (fun i=>olds[i]?)) (hb:aFh w (Exc X σ) sz bs (fun i=>news[i]?))
 {m id ver':Nat} {pl:Pl} (hpl:σ[id]? = some pl) (hv:pl.ver<ver') (hm:Nu.at ν m = .l (as_++bs)) :
 EffU ν w X σ id ⟨ver',.row (.var m) e sz⟩ (.rs id ver' (.int 0) (.clen (.var m))) (((Builtin.append_ #[t,xt] ty #[.slice base len rc,x]).run P w).andThen fun v w'=>.ok (.value v) w'):=by
 subst hisz hby
 have hfit':(len+bs.length)*i.bytes≤140737488355328:=by rw[←Int.natCast_mul] at hfit; omega
 have hr:=aKW (ty:=ty) ht hx hd hi hz (hrun w rfl).1 hfo (hrun w.drew rfl).2 hg h63 (growslice_fits hg hfit');have hge:=grownCap_ge w (len+bs.length) rc e;refine aIB (rc:=grownCap w (len+bs.length) rc e) (r:=.slice (some ⟨w.heap.size,0,none⟩) (len+bs.length) (grownCap w (len+bs.length) rc e)) hpl hv hm (aDA w _) (aAl w.drew _) (hmx:=by have:=grownCap_le_maxLen w (len+bs.length) rc e (by unfold maxLen; omega); unfold maxLen at this; omega) hpos (fun el hel=>?_) (cap:=grownCap w (len+bs.length) rc e) ?_ ?_ (Nat.le_refl _) ?_ (by rw[hr]; rfl) rfl (.inl ⟨?_,rfl⟩)
 · rcases List.mem_append.1 hel with h | h
   · exact hsa el h
   · exact hsb el h
 · simp only[Array.size_append,List.size_toArray,size_zeroCells,hzs,hlo,hln,←Nat.add_mul]
   congr 1
   omega
 · rw[List.length_append,hla]; exact hge
 · have:=aKK hsa hsb (by rw[hla]; exact hlo) ha hb (Builtin.zeroCells z.cells (grownCap w (len+bs.length) rc e - (len+bs.length))).toList
   intro i el hi f cv hf;obtain⟨r,h1,h2⟩:=this i el hi f cv hf;refine⟨r,?_,h2⟩;rw[←h1];simp only[←Array.getElem?_toList,Array.toList_append]
 · rw[List.length_append,hla]
theorem aRg {T:Tab} (hT:TOK P T) {ρ:Operand→LV} {val:Operand→Value} {get:Nat→Option Ob} {fresh:Nat} {o:Oper} {args:Array Operand} {tys:Array TypeId} (ho:o.op = .call ⟨.builtin .append,args,tys⟩) {out:Out} (h:aAx T ρ get fresh o.op=some out) (hn:aAZ ν out.needs)
 (hρ : ∀ x∈args.toList,LR ν w X σ (ρ x) (val x)) (hk : ∀ x∈args.toList,∀ id,(ρ x).id? = some id→aBh ν w X σ get id):aDs ν w X σ fresh out ((execOp val o).run P w):=by
 obtain⟨dst,op,type,pos,after,guard⟩:=o;simp only at ho;subst ho;simp only[aAx] at h;split at h
 · rename_i hb _ _; simp at hb
 · rename_i s x st xt hb hargs htys
   obtain rfl:args = #[s,x]:=by
    apply Array.toList_inj.1; exact hargs
   obtain rfl:tys = #[st,xt]:=by
    apply Array.toList_inj.1; exact htys
   have hrun:(execOp val ⟨dst,.call ⟨.builtin .append,#[s,x],#[st,xt]⟩,type,pos,after,guard⟩).run P w=((Builtin.append_ #[st,xt] type #[val s,val x]).run P w).andThen fun v w'=>.ok (.value v) w':=by
    simp[execOp,resolve,invoke,builtin]
   rw[hrun];have ls:=hρ s (by simp);have lx:=hρ x (by simp);have ks:=hk s (by simp);have kx:=hk x (by simp);split at h
   rotate_left
   · simp at h
   rename_i el tx hel hxt;split at h
   rotate_left
   · simp at h
   rename_i desc sz by_ z eq hge;cases hb1:aBs tx.desc&&Nat.ble 1 sz&&Nat.beq z.cells.size sz
   · rw[hb1] at h; simp at h
   rw[hb1] at h;simp only[cond_true] at h;simp only[Bool.and_eq_true] at hb1;obtain⟨⟨hstr,hpos⟩,hzs⟩:=hb1;have hpos:0<sz:=Nat.le_of_ble_eq_true hpos;have hzs:=Nat.eq_of_beq_eq_true hzs;have hxu:=(hT.get hxt).1;obtain⟨_,⟨i,hi,hisz,hiby,hiz⟩,_⟩:=hT.get hge;simp only at hisz hiby hiz;have hiz:=hiz z rfl
   have hst:P.underlying st=some (.slice el):=by
    unfold aUb at hel;split at hel
    · rename_i hg';simp only[Option.some.injEq] at hel;subst hel;exact (hT.get hg').1
    · simp at hel
   split at h
   · -- onto a row
     rename_i id ver n hs;rw[hs] at ls ks;split at h
     rotate_left
     · simp at h
     rename_i ver' c el' sz' hob;cases hb2:Nat.beq ver ver'&&Nat.beq el el'&&Nat.beq sz sz'
     · rw[hb2] at h; simp at h
     rw[hb2] at h;simp only[cond_true] at h;simp only[Bool.and_eq_true] at hb2;obtain⟨⟨hbv,hbe⟩,hbs⟩:=hb2;obtain rfl:=Nat.eq_of_beq_eq_true hbe;obtain rfl:=Nat.eq_of_beq_eq_true hbs;split at h
     rotate_left
     · simp at h
     rename_i d m ns hbh;simp only[Option.some.injEq] at h;subst h;simp only at hn;obtain⟨els,news,hd,hm,hels,hnl,hone,hho,hrunx⟩:=aKx hbh hpos lx kx (fun p hp=>hn p (by simp[hp]));have hfits:denN ν (.fits (aNA n m) by_):=hn _ (by simp);obtain⟨a,len,rc,pl,hpl,hver,hvs,hrs,hplsz,_,hcsz,hrow⟩:=aFv ls (ks id rfl) hob hbv
     have hnlen:denI ν n=(len:Int)∧len≤rc:=by
      rcases hrs with ⟨_,_,h1,h3,h2,_⟩ | ⟨b,cc,off,_,_,hn0,_,hl,hl2,_⟩ <;> omega
     have hlc:len≤(denC ν c).length:=by
      cases hcl:aBH c n
      · have:denN ν (.le n (.clen c)):=hn _ (by simp[hcl])
        simp only[denN,denI] at this;omega
      · have:=aFB (ν:=ν) hcl
        omega
     rw[aHz,aOA hnlen.1] at hd
     have hadd:denI ν (aNA n m)=((len+els.length:Nat):Int):=by
      unfold aNA;rw[aDg ν (· + ·) .add (fun _ _=>rfl),hnlen.1,hm];omega
     simp only[denN,hadd] at hfits;obtain⟨_,hf1,hf2⟩:=hfits
     have hlen':(aBo ν d).length=len+els.length:=by rw[hd]; simp; omega
     have hall' : ∀ el∈aBo ν d,el.length=sz:=fun el hel=>by
      rw[hd] at hel;rcases List.mem_append.1 hel with hel | hel
      · exact hcsz el (List.mem_of_mem_take hel)
      · exact hels el hel
     intro mm hmm
     have hvv:pl.ver<ver+1:=by have h2:=Nat.eq_of_beq_eq_true hbv; have h3:pl.ver=ver':=hver; have h4:ver=ver':=h2; omega
     rw[hvs];rw[hd] at hmm
     have oldc : ∀ (b cap:Nat) (ar:Array Value) (fr:Nat×Nat),w.heap[b]? = some (.cells ar el fr)→(∀ (i:Nat) (e:List CV),(denC ν c)[i]? = some e→∀ (f:Nat) (cv:CV),e[f]? = some cv→∃ r,ar[i*sz+f]? = some r∧CVR w (Exc X σ) cv r) →
      ∃ olds:List Value,olds.length=len*sz∧(∀ j v,olds[j]? = some v→w.cell? ⟨b,j,none⟩=some v)∧aFh w (Exc X σ) sz ((denC ν c).take len) (fun i=>olds[i]?):=fun b cap ar fr hh hc=>by
      obtain⟨olds,o1,o2,_,o4⟩:=aMZ (w:=w) (b:=b) (o:=0) (g:=fun i f=>(ar[i*sz+f]?).getD undef) (Y:=Exc X σ) (els:=(denC ν c).take len) (fun e he=>hcsz e (List.mem_of_mem_take he)) hpos (fun i e he f cv hf=>by
       have hi:i<len:=by
        have:=(List.getElem?_eq_some_iff.1 he).1
        simp at this;omega
       rw[List.getElem?_take_of_lt hi] at he;obtain⟨r,h1,h2⟩:=hc i e he f cv hf;rw[aCt hh,Nat.zero_add,h1];exact⟨rfl,h2⟩)
      refine⟨olds,by rw[o1,List.length_take,Nat.min_eq_left hlc],fun j v hj=>by have:=o2 j v hj; rw[Nat.zero_add] at this; exact this,o4⟩
     have htl:((denC ν c).take len).length=len:=by rw[List.length_take,Nat.min_eq_left hlc]
     have hts : ∀ e∈(denC ν c).take len,e.length=sz:=fun e he=>hcsz e (List.mem_of_mem_take he);rcases hrs with ⟨hat,rfl,rfl,rfl,_,_⟩ | ⟨b,cap,off,hat,rfl,_,_,hlr,_,hz0,_⟩
     · by_cases he:els.length=0
       · obtain rfl:=List.length_eq_zero_iff.1 he;have h1:=aEp (ty:=type) hst hxu hstr hi (by have:=(hrunx w rfl).1; rwa [he] at this) (by have:=(hrunx w rfl).2; rw[he] at this; rw[hisz]; exact this);exact aPE hpl hvv (by simpa using hmm) hpos (by rw[h1]; rfl)
       · exact aFl hst hxu hstr hi hiz hisz hiby hzs hpos htl hts hels (olds:=[]) (by simp) hnl (by simp[Builtin.firstCells]) hrunx (by omega) (by omega) hf1 (fun i e he=>by simp at he) hho hpl hvv hmm
     · have hoff:off=0∧rc≤cap:=hz0 (by simp[denI]);obtain⟨rfl,hrcc⟩:=hoff;rcases hrow with ⟨hno,_⟩ | ⟨b2,cap2,ar,fr,hat2,hh,hfr,hcap,hlen2,hcells⟩
       · rw[hat] at hno; simp at hno
       rw[hat] at hat2;simp only[Option.some.injEq,Prod.mk.injEq] at hat2;obtain⟨rfl,rfl⟩:=hat2;obtain⟨olds,o1,o2,o3⟩:=oldc b cap ar fr hh hcells;by_cases hroom:len+els.length≤rc
       · -- in place
         have hfit:len*sz+0+news.length≤ar.size:=by
          refine Nat.le_trans ?_ hcap;rw[hnl,Nat.add_zero,←Nat.add_mul];exact Nat.mul_le_mul_right _ (by omega)
         obtain⟨w',hr,ht,hsz',hh'⟩:=aDO (P:=P) (len*sz) news 0 ar w hh hfr.1 hfit hone;have h1:=aKY (ty:=type) hst hxu hstr hi (b:=b) (sLen:=len) (sCap:=rc) (hrunx w rfl).1 (by rw[hisz]; exact (hrunx w rfl).2) hroom (by rw[hisz]; simpa using hr);have hmv:aGf w w' pl ⟨ver+1,some (b,cap),sz⟩:=.inl ⟨b,cap,cap,hat,rfl,ht⟩;have hself:(σ.set id ⟨ver+1,some (b,cap),sz⟩)[id]? = some ⟨ver+1,some (b,cap),sz⟩:=List.getElem?_set_self (List.getElem?_eq_some_iff.1 hpl).1;have hst':=aDV (X:=X) hpl hmv;obtain⟨e1,e2⟩:=aGU hmm
         have hln:(List.take len (denC ν c)++els).length=len+els.length:=by rw[List.length_append,htl]
         refine⟨_,.slice (some ⟨b,0,none⟩) (len+els.length) rc,w',pl,⟨ver+1,some (b,cap),sz⟩,by rw[h1]; rfl,.inl rfl,hpl,rfl,.inr hvv,hmv,?_,?_⟩
         · simp only[LR];exact⟨_,_,_,_,rfl,hself,Nat.le_refl _,fun _=>.inr ⟨b,cap,0,rfl,rfl,by rw[e2]; omega,by simp[denI],by rw[e2,hln]; exact (Int.toNat_natCast _).symm,hroom,fun _=>⟨rfl,hrcc⟩,fun _=>by simp[denI]⟩⟩
         · refine⟨rfl,hpos,by rw[e1,←hd]; exact hall',.inr ⟨b,cap,putV ar (len*sz) news 0,fr,rfl,hh',by rw[aBX]; exact hfr,by rw[aBX]; exact hcap,by rw[e1,hln]; omega,fun i e hi' f cv hf=>?_⟩⟩;rw[e1] at hi'
           have hfl:f<sz:=by
            have:e.length=sz:=hall' e (by rw[hd]; exact List.mem_of_getElem? hi')
            rw[←this];exact (List.getElem?_eq_some_iff.1 hf).1
           have hput:=aGu (len*sz) news 0 ar hfit (i*sz+f);rw[Nat.add_zero] at hput;by_cases hil:i<len
           · have hlt:i*sz+f<len*sz:=by
              have:(i+1)*sz≤len*sz:=Nat.mul_le_mul_right _ hil
              rw[Nat.add_mul] at this;omega
             rw[if_neg (by omega)] at hput;rw[List.getElem?_append_left (by rw[htl]; exact hil),List.getElem?_take_of_lt hil] at hi';obtain⟨r,g1,g2⟩:=hcells i e hi' f cv hf;exact⟨r,by rw[hput]; exact g1,g2.step hst'⟩
           · rw[List.getElem?_append_right (by rw[htl]; omega),htl] at hi';obtain⟨r,g1,g2⟩:=hho _ e hi' f cv hf;have hn:(i - len)*sz+f<news.length:=(List.getElem?_eq_some_iff.1 g1).1
             have e3:i*sz+f=len*sz+((i - len)*sz+f):=by
              rw[←Nat.add_assoc,←Nat.add_mul]
              congr 2
              omega
             refine⟨r,?_,g2.step hst'⟩;rw[hput,if_pos (by omega),e3,Nat.add_sub_cancel_left];exact g1
       · refine aFl hst hxu hstr hi hiz hisz hiby hzs hpos htl hts hels (olds:=olds) o1 hnl ?_ hrunx (by omega) (by omega) hf1 o3 hho hpl hvv hmm;refine run_firstCells_some (P:=P) w.drew sz len ⟨b,0,none⟩ len rc olds o1 fun j v hj=>?_;rw[Addr.add_lit,Nat.zero_add];exact o2 j v hj
   · -- onto nothing
     rename_i hs;rw[hs] at ls;simp only[LR] at ls;split at h
     rotate_left
     · simp at h
     rename_i d m ns hbh;simp only[Option.some.injEq] at h;subst h;simp only at hn;obtain⟨els,news,hd,hm,hels,hnl,hone,hho,hrunx⟩:=aKx hbh hpos lx kx (fun p hp=>hn p (by simp[hp]));have hfits:denN ν (.fits m by_):=hn _ (by simp);simp only[denN,hm] at hfits;obtain⟨_,hf1,hf2⟩:=hfits
     have hd:aBo ν d=[]++els:=by rw[hd]; simp[denC]
     intro mm hmm hpl;rw[hd] at hmm;rw[ls];by_cases he:els.length=0
     · obtain rfl:=List.length_eq_zero_iff.1 he;have h1:=aEp (ty:=type) hst hxu hstr hi (by have:=(hrunx w rfl).1; rwa [he] at this) (by have:=(hrunx w rfl).2; rw[he] at this; rw[hisz]; exact this);exact aPE hpl (by simp) (by simpa using hmm) hpos (by rw[h1]; rfl)
     · exact aFl hst hxu hstr hi hiz hisz hiby hzs hpos (as_:=[]) rfl (by simp) hels (olds:=[]) (by simp) hnl (by simp[Builtin.firstCells]) hrunx (by omega) (by show ((0+els.length:Nat):Int)≤_; rw[Nat.zero_add]; exact hf2) (by show ((0+els.length:Nat):Int)*_≤_; rw[Nat.zero_add]; exact hf1) (fun i e he=>by simp at he) hho hpl (by simp) hmm
   · simp at h
 all_goals first
  | (simp at h; done)
  | (rename_i hb; cases hb; done)
  | (rename_i hb _; cases hb; done)
  | (rename_i hb _ _; cases hb; done)
end
end
section
open Go.RowKit
section
variable {P:Program} {ν:Nu} {w:World} {X:Nat→Prop} {σ:List Pl}
theorem aS2 {T:Tab} (hT:TOK P T) {ρ:Operand→LV} {val:Operand→Value} {get:Nat→Option Ob} {fresh:Nat} {o:Oper} {t:TypeId} {x:Operand} (ho:o.op = .range t x) {out:Out} (h:aAx T ρ get fresh o.op=some out) (lx:LR ν w X σ (ρ x) (val x)) :
 aDs ν w X σ fresh out ((execOp val o).run P w):=by
 rw[ho] at h;simp only[aAx] at h;split at h
 rotate_left
 · simp at h
 rename_i e hg hx;simp only[Option.some.injEq] at h;subst h;have hu:=(hT.get hg).1;rw[hx] at lx;simp only[LR] at lx;intro hpl;have hm:aGf w (w.alloc (.stringIter (denS ν e) 0)) ⟨0,none,0⟩ ⟨1,some (w.heap.size,0),0⟩:=.inr ⟨Turn.alloc w _,.inr ⟨0,rfl,by simp⟩⟩;refine⟨.value (.pointer (some ⟨w.heap.size,0,none⟩)),_,w.alloc (.stringIter (denS ν e) 0),_,⟨1,some (w.heap.size,0),0⟩,?_,.inl rfl,hpl,rfl,.inr (by simp),hm,?_,?_⟩
 · simp[execOp,ho,Instr.range,lx,aAv hu]
 · exact aE8 (pl:=⟨1,some (w.heap.size,0),0⟩) (List.getElem?_set_self (List.getElem?_eq_some_iff.1 hpl).1) rfl rfl
 · exact⟨_,_,rfl,by simp[denI],by simpa[denI] using aAl w _⟩
theorem aHu : ∀ {cs:List LV},cs.all LV.shut=true→cs.all LV.one=true
 | [],_=>rfl
 | c::cs,h=>by
  simp only[List.all_cons,Bool.and_eq_true] at h ⊢;refine⟨?_,aHu h.2⟩
  cases c <;> first | rfl | exact h.1 | (simp[LV.shut] at h)
theorem aDZ {cs:List LV} {rs:List Value} (h:LRs ν w X σ cs rs) (hs:cs.all LV.shut=true) (n sz:Nat) (hn:n*sz≤cs.length) :
 (∀ el∈((List.range n).map fun j=>(cs.drop (j*sz)).take sz).map (·.map (cvOf ν)),el.length=sz)∧aFh w (Exc X σ) sz (((List.range n).map fun j=>(cs.drop (j*sz)).take sz).map (·.map (cvOf ν))) (fun i=>rs[i]?):=by
 have hj : ∀ j,j<n→j*sz+sz≤cs.length:=fun j hj=>by
  have:(j+1)*sz≤n*sz:=Nat.mul_le_mul_right _ hj
  rw[Nat.add_mul] at this;omega
 refine⟨fun el hel=>?_,fun i el hi f cv hf=>?_⟩
 · simp only[List.map_map,List.mem_map,List.mem_range,Function.comp_apply] at hel;obtain⟨j,hjn,rfl⟩:=hel
   have:=hj j hjn
   simp
   omega
 · simp only[List.getElem?_map,Option.map_eq_some_iff] at hi;obtain⟨el',⟨j,hj',rfl⟩,rfl⟩:=hi
   have hlt:i<n:=by
    have:=(List.getElem?_eq_some_iff.1 hj').1
    simpa using this
   rw[List.getElem?_range hlt] at hj';simp only[Option.some.injEq] at hj';subst hj';simp only[List.getElem?_map,Option.map_eq_some_iff] at hf;obtain⟨v,hv,rfl⟩:=hf
   have hfl:f<sz:=by
    have:=(List.getElem?_eq_some_iff.1 hv).1
    simp at this;omega
   rw[List.getElem?_take_of_lt hfl,List.getElem?_drop] at hv;have hl:=aBe h
   have hlt':i*sz+f<rs.length:=by
    rw[←hl]; exact (List.getElem?_eq_some_iff.1 hv).1
   refine⟨rs[i*sz+f],List.getElem?_eq_getElem hlt',?_⟩;have hg:=aFs h (i*sz+f) _ (List.getElem?_eq_getElem hlt')
   have hgv:getL cs (i*sz+f)=v:=by
    have : ∀ (l:List LV) (k:Nat) (v:LV),l[k]? = some v→getL l k=v:=by
     intro l
     induction l with
     | nil=>intro k v h; simp at h
     | cons y l ih =>
      intro k v h
      cases k with
      | zero=>simpa[getL] using h
      | succ k=>exact ih k v (by simpa using h)
    exact this _ _ _ hv
   rw[hgv] at hg;exact aNG (List.all_eq_true.1 hs v (List.mem_of_getElem? hv)) hg
theorem aQe (el:List CV) (f:Nat) (cs:List CV) (h:f+cs.length≤el.length) (j:Nat):(aEk el f cs)[j]? = if f≤j∧j<f+cs.length then cs[j - f]? else el[j]?:=by
 unfold aEk
 have hl:(el.take f).length=f:=by simp; omega
 by_cases h1:j<f
 · rw[if_neg (by omega),List.append_assoc,List.getElem?_append_left (by omega),List.getElem?_take_of_lt h1]
 · rw[List.append_assoc,List.getElem?_append_right (by omega),hl];by_cases h2:j - f<cs.length
   · rw[if_pos (by omega),List.getElem?_append_left h2]
   · rw[if_neg (by omega),List.getElem?_append_right (by omega),List.getElem?_drop]
     congr 1
     omega
theorem aQJ (el:List CV) (f:Nat) (cs:List CV) (h:f+cs.length≤el.length):(aEk el f cs).length=el.length:=by
 unfold aEk
 simp
 omega
theorem aRj {T:Tab} (hT:TOK P T) {ρ:Operand→LV} {val:Operand→Value} {get:Nat→Option Ob} {fresh:Nat} {o:Oper} {t:TypeId} {a x:Operand} (ho:o.op = .store t a x) {out:Out} (h:aAx T ρ get fresh o.op=some out) {id ver f:Nat} {i:E} (hrp:ρ a = .rp id ver i f) (hn:aAZ ν out.needs)
 (la:LR ν w X σ (ρ a) (val a)) (lx:LR ν w X σ (ρ x) (val x)) (hk : ∀ id,(ρ a).id? = some id→aBh ν w X σ get id) :
 aDs ν w X σ fresh out ((execOp val o).run P w):=by
 rw[ho] at h;simp only[aAx,hrp] at h;rw[hrp] at la hk;split at h
 · rename_i heq; simp at heq
 · rename_i ti id' ver0 i' f' hg heq;simp only[LV.rp.injEq] at heq;obtain⟨rfl,rfl,rfl,rfl⟩:=heq;split at h
   rotate_left
   · simp at h
   rename_i ver' c e sz hob;cases hb:Nat.beq ver ver'&&(ρ x).cells.all LV.shut&&Nat.beq (ρ x).cells.length ti.size&&Nat.ble (f+ti.size) sz
   · rw[hb] at h; simp at h
   rw[hb] at h;simp only[cond_true,Option.some.injEq] at h;subst h;simp only[Bool.and_eq_true] at hb;obtain⟨⟨⟨hv,hshut⟩,hlen⟩,hle⟩:=hb;have hlen:=Nat.eq_of_beq_eq_true hlen;have hle:f+ti.size≤sz:=Nat.le_of_ble_eq_true hle;have hone:=aHu hshut;obtain⟨b,cap',pl,hpl,hver,hat,hva,hplsz,hpos,hcsz,hrow⟩:=aQf la (hk id rfl) hob hv;have hix:denN ν (.ix i (.clen c)):=hn _ (by simp);simp only[denN,denI] at hix;rcases hrow with ⟨hno,_⟩ | ⟨b2,cap,ar,fr,hat2,hh,hfr,hcap,hlen2,hcells⟩
   · rw[hat] at hno; simp at hno
   rw[hat] at hat2;simp only[Option.some.injEq,Prod.mk.injEq] at hat2;obtain⟨rfl,rfl⟩:=hat2;obtain⟨hu,⟨it,hi,hs,_,_⟩,_⟩:=hT.get hg;have lxc:=aD0 hone lx;have l1:=aBe lxc;simp only[Array.length_toList] at l1
   have hidx:(denI ν i).toNat<(denC ν c).length:=by omega
   generalize hn0:(denI ν i).toNat=k at hva hidx
   have hfit:k*sz+f+0+(val x).cells.toList.length≤ar.size:=by
    have:(k+1)*sz≤cap'*sz:=Nat.mul_le_mul_right _ (by omega)
    rw[Nat.add_mul] at this
    simp
    omega
   rw[hplsz] at hva;obtain⟨w',hr,ht,hsz',hh'⟩:=aDO (P:=P) (k*sz+f) (val x).cells.toList 0 ar w hh hfr.1 hfit (aI0 hone lxc);have hst:=aEe (X:=X) hpl hat ht;intro mm hmm;simp only[aBo,hn0] at hmm;obtain⟨e1,e2⟩:=aGU hmm
   have hel:(denC ν c)[k]? = some ((denC ν c).getD k []):=by simp[List.getD,List.getElem?_eq_getElem hidx]
   have hell:((denC ν c).getD k []).length=sz:=hcsz _ (List.mem_of_getElem? hel)
   have hfc:f+((ρ x).cells.map (cvOf ν)).length≤((denC ν c).getD k []).length:=by rw[hell,List.length_map,hlen]; exact hle
   refine⟨.skip,undef,w',pl,pl,?_,.inr ⟨rfl,rfl⟩,hpl,hver,.inl rfl,.inl ⟨b,cap',cap',hat,hat,ht⟩,?_,?_⟩
   · have hne : ¬ (val x).cells.size≠it.size:=by rw[hs]; omega
     simp only[execOp,ho,Sem.run_bind,hva,Instr.storeAt,Instr.sureAddr,Sem.run_pure,Result.andThen_ok,storeVar,aAM hi,hne,if_false,hr]
   · simp only[LR];exact⟨#[],rfl,by simp[LRs]⟩
   · rw[aGt hpl];refine⟨hplsz,hpos,?_,.inr ⟨b,cap',putV ar (k*sz+f) (val x).cells.toList 0,fr,hat,hh',by rw[aBX]; exact hfr,by rw[aBX]; exact hcap,by rw[e1,List.length_set]; exact hlen2,fun j el hj g cv hg=>?_⟩⟩
     · rw[e1];intro el hel';rcases List.mem_or_eq_of_mem_set hel' with h | rfl
       · exact hcsz el h
       · rw[aQJ _ _ _ hfc,hell]
     · rw[e1] at hj;have hput:=aGu (k*sz+f) (val x).cells.toList 0 ar hfit (j*sz+g);rw[Nat.add_zero] at hput
       have hjl:j<(denC ν c).length:=by
        have:=(List.getElem?_eq_some_iff.1 hj).1
        simpa using this
       have hcl:(val x).cells.toList.length=ti.size:=by simp; omega
       by_cases ej:j=k
       · subst ej;rw[List.getElem?_set_self hidx] at hj;simp only[Option.some.injEq] at hj;subst hj;rw[aQe _ _ _ hfc] at hg;simp only[List.length_map,hlen] at hg;by_cases hin:f≤g∧g<f+ti.size
         · rw[if_pos hin] at hg;rw[if_pos (by omega)] at hput;have lc:=aP6 hshut lxc
           have get : ∀ (cs:List CV) (rs:List Value),CVRs w (Exc X σ) cs rs→∀ (n:Nat) (cv:CV),cs[n]? = some cv→∃ r,rs[n]? = some r∧CVR w (Exc X σ) cv r:=by
            intro cs
            induction cs with
            | nil=>intro rs _ n cv h; simp at h
            | cons c cs ih =>
             intro rs h n cv hc
             cases rs with
             | nil=>simp only[CVRs] at h
             | cons r rs =>
              simp only[CVRs] at h
              cases n with
              | zero =>
               simp only[List.getElem?_cons_zero,Option.some.injEq] at hc;subst hc;exact⟨r,rfl,h.1⟩
              | succ n=>exact ih rs h.2 n cv (by simpa using hc)
           obtain⟨r,g1,g2⟩:=get _ _ lc _ cv hg;refine⟨r,?_,g2.step hst⟩;rw[hput,show j*sz+g - (j*sz+f)=g - f from by omega];exact g1
         · rw[if_neg hin] at hg;rw[if_neg (by omega)] at hput;obtain⟨r,g1,g2⟩:=hcells j _ hel g cv hg;exact⟨r,by rw[hput]; exact g1,g2.step hst⟩
       · rw[List.getElem?_set_ne (Ne.symm ej)] at hj;obtain⟨r,g1,g2⟩:=hcells j el hj g cv hg
         have hgl:g<sz:=by
          rw[←hcsz el (List.mem_of_getElem? hj)];exact (List.getElem?_eq_some_iff.1 hg).1
         refine⟨r,?_,g2.step hst⟩;rw[hput,if_neg ?_]
         · exact g1
         · rintro⟨h1,h2⟩;rcases Nat.lt_or_gt_of_ne ej with h | h
           · have:(j+1)*sz≤k*sz:=Nat.mul_le_mul_right _ h
             rw[Nat.add_mul] at this;omega
           · have:(k+1)*sz≤j*sz:=Nat.mul_le_mul_right _ h
             rw[Nat.add_mul] at this;omega
 · simp at h
theorem aCi : ∀ {cs ds:List LV} {rs qs:List Value},LRs ν w X σ cs rs→LRs ν w X σ ds qs→LRs ν w X σ (cs++ds) (rs++qs)
 | [],ds,[],qs,_,h=>h
 | c::cs,ds,r::rs,qs,h,h'=>by
  simp only[LRs] at h;simp only[List.cons_append,LRs];exact⟨h.1,aCi h.2 h'⟩
 | [],_,_::_,_,h,_=>by simp only[LRs] at h
 | _::_,_,[],_,h,_=>by simp only[LRs] at h
theorem aFH {cs:List LV} {rs:List Value} (h:LRs ν w X σ cs rs) : ∀ n,LRs ν w X σ ((List.range n).flatMap fun _=>cs) ((List.range n).flatMap fun _=>rs)
 | 0=>by simp[LRs]
 | n+1=>by
  rw[List.range_succ,List.flatMap_append,List.flatMap_append];refine aCi (aFH h n) ?_;simpa using h
theorem aHj (l:Array Value) (s:Nat) (hs:l.size=s) (h0:0<s) : ∀ n,(List.range (n*s)).map (fun j=>l[j % s]!)=(List.range n).flatMap fun _=>l.toList
 | 0=>by simp
 | n+1=>by
  rw[Nat.add_mul,Nat.one_mul,List.range_add,List.map_append,aHj l s hs h0 n,List.range_succ,List.flatMap_append]
  congr 1
  simp only[List.flatMap_cons,List.flatMap_nil,List.append_nil,List.map_map];apply List.ext_getElem
  · simp[hs]
  · intro j h1 h2;simp only[List.length_map,List.length_range] at h1;simp only[List.getElem_map,List.getElem_range,Function.comp_apply,Array.getElem_toList];rw[show (n*s+j) % s=j from by rw[Nat.mul_comm,Nat.mul_add_mod,Nat.mod_eq_of_lt h1]];simp[hs,h1]
theorem aGo (z:Value):LRs ν w X σ (zeroCells z) z.cells.toList:=by
 have:=aNV ν w X σ z
 cases z with
 | agg cs=>simpa[zeroCells,lvOf,LV.cells,Value.cells] using aD9 ν w X σ cs.toList
 | tuple vs =>
  simp only[zeroCells,lvOf,LV.cells,Value.cells,LRs];exact⟨by simpa only[lvOf] using this,trivial⟩
 | _ =>
  simp only[zeroCells,lvOf,aFO,LV.cells,Value.cells,LRs];exact⟨by simpa only[lvOf,aFO] using this,trivial⟩
theorem aKM {T:Tab} (hT:TOK P T) {ρ:Operand→LV} {val:Operand→Value} {get:Nat→Option Ob} {fresh:Nat} {o:Oper} {t:TypeId} {len:Nat} {parts:Array (Nat×Operand)} (ho:o.op = .buildSlice t len parts) {out:Out} (h:aAx T ρ get fresh o.op=some out)
 (hρ : ∀ p∈parts.toList,LR ν w X σ (ρ p.2) (val p.2)):aDs ν w X σ fresh out ((execOp val o).run P w):=by
 rw[ho] at h;simp only[aAx] at h;split at h
 rotate_left
 · simp at h
 rename_i el _ _ _ _ hg;split at h
 rotate_left
 · simp at h
 rename_i desc sz by_ z eq hge;split at h
 rotate_left
 · simp at h
 rename_i cs hfill;cases hb:cs.all LV.shut&&Nat.ble 1 sz&&Nat.ble (len*sz) 16777216&&Nat.beq z.cells.size sz&&Nat.beq cs.length (len*sz)
 · rw[hb] at h; simp at h
 rw[hb] at h;simp only[cond_true,Option.some.injEq] at h;subst h;simp only[Bool.and_eq_true] at hb;obtain⟨⟨⟨⟨hshut,hpos⟩,hmax⟩,hzs⟩,hcl⟩:=hb;have hpos:0<sz:=Nat.le_of_ble_eq_true hpos;have hmax:=Nat.le_of_ble_eq_true hmax;have hzs:=Nat.eq_of_beq_eq_true hzs;have hcl:=Nat.eq_of_beq_eq_true hcl;have hu:=(hT.get hg).1;obtain⟨_,⟨i,hi,hisz,hiby,hiz⟩,_⟩:=hT.get hge;simp only at hisz hiby hiz hu;have hiz:=hiz z rfl;have h0:=aFH (aGo (ν:=ν) (w:=w) (X:=X) (σ:=σ) z) len;rw[←aHj z.cells sz hzs hpos len] at h0
 have harr:((Array.range (len*sz)).map (z.cells[· % z.cells.size]!)).toList=(List.range (len*sz)).map (fun j=>z.cells[j % sz]!):=by
  rw[hzs]; simp
 obtain⟨a',hf,hl⟩:=aEX (place:=fun i=>some (i*sz,sz)) (ρ:=ρ) (val:=val) parts.toList _ ((Array.range (len*sz)).map (z.cells[· % z.cells.size]!)) cs hfill (by rw[harr]; exact h0) hρ;obtain⟨hls,hho⟩:=aDZ hl hshut len sz (by omega);have hla:=aBe hl;intro mm hmm hpl;simp only[aBo] at hmm
 have hrun:(execOp val o).run P w = .ok (.value (.slice (some ⟨w.heap.size,0,none⟩) len len)) (w.alloc (.cells a' el)):=by
  have hb2 : ¬ (16777216<len*sz):=by omega
  have hparts:(parts.map fun p=>(p.1,val p.2)).toList=parts.toList.map fun (i,x)=>(i,val x):=by simp
  by_cases hz0:len*sz=0
  · have hz':len*i.size=0:=by rw[hisz]; exact hz0
    have hf':Instr.fill (fun i=>some (i*sz,sz)) (Array.map (fun (_:Nat)=>(default:Value)) (Array.range 0)) (parts.toList.map fun (i,x)=>(i,val x))=some a':=by
     rw[←hf]
     congr 1
     simp[hz0]
    simp[execOp,ho,Instr.buildSlice,aAv hu,aAM hi,hisz,hb2,hz0,hf',newRow]
  · simp[execOp,ho,Instr.buildSlice,aAv hu,aAM hi,hisz,hb2,hz0,aCh hi hiz,hf,newRow]
 have hlen:((((List.range len).map fun j=>(cs.drop (j*sz)).take sz).map (·.map (cvOf ν)))).length=len:=by simp
 refine aIB hpl (by simp) hmm (Turn.alloc w _) (aAl w _) (hmx:=by have:=Nat.le_mul_of_pos_right len hpos; omega) hpos hls (cap:=len) (rc:=len) ?_ (by rw[hlen]; exact Nat.le_refl _) (Nat.le_refl _) ?_ hrun rfl (.inl ⟨by rw[hlen],rfl⟩)
 · have:a'.size=cs.length:=by simpa using hla.symm
   omega
 · intro i el hi f cv hf;obtain⟨r,h1,h2⟩:=hho i el hi f cv hf;exact⟨r,by rw[←h1]; simp,h2⟩
theorem aUM {T:Tab} (hT:TOK P T) {ρ:Operand→LV} {val:Operand→Value} {get:Nat→Option Ob} {fresh:Nat} {o:Oper} {t:TypeId} {len:Nat} {parts:Array (Nat×Operand)} (ho:o.op = .buildSlice t len parts) {ns:List Need} {v0:LV} {d:DC} {of:E→LO} {vf:E→LV}
 (h:aAx T ρ get fresh (.buildSlice t len parts)=some ⟨ns,v0,.newc d of vf⟩) {m:Nat} (hm:Nu.at ν m = .l (aBo ν d)) (hn:aAZ ν ns) (hρ : ∀ p∈parts.toList,LR ν w X σ (ρ p.2) (val p.2)) (hown : ∀ b,Own σ b→b<w.heap.size) (hX : ∀ b,X b→b<w.heap.size) :
 ∃ r w',(execOp val o).run P w = .ok (.value r) w'∧Turn none w w'∧LR ν w' X σ (.vs (.var m)) r:=by
 simp only[aAx] at h;split at h
 rotate_left
 · simp at h
 rename_i el _ _ _ _ hg;split at h
 rotate_left
 · simp at h
 rename_i desc sz by_ z eq hge;split at h
 rotate_left
 · simp at h
 rename_i cs hfill;cases hb:cs.all LV.shut&&Nat.ble 1 sz&&Nat.ble (len*sz) 16777216&&Nat.beq z.cells.size sz&&Nat.beq cs.length (len*sz)
 · rw[hb] at h; simp at h
 rw[hb] at h;simp only[cond_true,Option.some.injEq,Out.mk.injEq,Eff.newc.injEq] at h;obtain⟨rfl,rfl,rfl,rfl,rfl⟩:=h;simp only[Bool.and_eq_true] at hb;obtain⟨⟨⟨⟨hshut,hpos⟩,hmax⟩,hzs⟩,hcl⟩:=hb;have hpos:0<sz:=Nat.le_of_ble_eq_true hpos;have hmax:=Nat.le_of_ble_eq_true hmax;have hzs:=Nat.eq_of_beq_eq_true hzs;have hcl:=Nat.eq_of_beq_eq_true hcl;have hu:=(hT.get hg).1;obtain⟨_,⟨i,hi,hisz,hiby,hiz⟩,_⟩:=hT.get hge;simp only at hisz hiby hiz hu;have hiz:=hiz z rfl;have h0:=aFH (aGo (ν:=ν) (w:=w) (X:=X) (σ:=σ) z) len;rw[←aHj z.cells sz hzs hpos len] at h0
 have harr:((Array.range (len*sz)).map (z.cells[· % z.cells.size]!)).toList=(List.range (len*sz)).map (fun j=>z.cells[j % sz]!):=by
  rw[hzs]; simp
 obtain⟨a',hf,hl⟩:=aEX (place:=fun i=>some (i*sz,sz)) (ρ:=ρ) (val:=val) parts.toList _ ((Array.range (len*sz)).map (z.cells[· % z.cells.size]!)) cs hfill (by rw[harr]; exact h0) hρ;obtain⟨hls,hho⟩:=aDZ hl hshut len sz (by omega);have hla:=aBe hl;simp only[aBo] at hm
 have hrun:(execOp val o).run P w = .ok (.value (.slice (some ⟨w.heap.size,0,none⟩) len len)) (w.alloc (.cells a' el)):=by
  have hb2 : ¬ (16777216<len*sz):=by omega
  have hparts:(parts.map fun p=>(p.1,val p.2)).toList=parts.toList.map fun (i,x)=>(i,val x):=by simp
  by_cases hz0:len*sz=0
  · have hz':len*i.size=0:=by rw[hisz]; exact hz0
    have hf':Instr.fill (fun i=>some (i*sz,sz)) (Array.map (fun (_:Nat)=>(default:Value)) (Array.range 0)) (parts.toList.map fun (i,x)=>(i,val x))=some a':=by
     rw[←hf]
     congr 1
     simp[hz0]
    simp[execOp,ho,Instr.buildSlice,aAv hu,aAM hi,hisz,hb2,hz0,hf',newRow]
  · simp[execOp,ho,Instr.buildSlice,aAv hu,aAM hi,hisz,hb2,hz0,aCh hi hiz,hf,newRow]
 have hlen:((((List.range len).map fun j=>(cs.drop (j*sz)).take sz).map (·.map (cvOf ν)))).length=len:=by simp
 have hw:(w.alloc (.cells a' el)).heap[w.heap.size]? = some (.cells a' el (0,0)):=aAl w _;have ht:Turn none w (w.alloc (.cells a' el)):=Turn.alloc w _;have hst:Stays (Exc X σ) (Exc X σ) w (w.alloc (.cells a' el)):=⟨fun b _ hb=>ht.heap b hb (by simp),fun b hb=>.inl hb,ht.size⟩;refine⟨_,_,hrun,ht,?_⟩;simp only[LR,(aGU hm).1]
 have hfin:CVR (w.alloc (.cells a' el)) (Exc X σ) (.vs (((List.range len).map fun j=>(cs.drop (j*sz)).take sz).map (·.map (cvOf ν)))) (.slice (some ⟨w.heap.size,0,none⟩) (((List.range len).map fun j=>(cs.drop (j*sz)).take sz).map (·.map (cvOf ν))).length len):=by
  refine .vs _ w.heap.size 0 sz len (fun i f=>(a'.toList[i*sz+f]?).getD undef) hls (by rw[hlen]; exact Nat.le_refl _) (fun i el' hi f cv hf=>?_) (fun i el' hi f cv hf=>?_)
  · obtain⟨r,h1,h2⟩:=hho i el' hi f cv hf;refine⟨fun hx=>?_,?_⟩
    · rcases hx with hx | hx
      · exact Nat.lt_irrefl _ (hX _ hx)
      · exact Nat.lt_irrefl _ (hown _ hx)
    · rw[aCt hw,Nat.zero_add]
      have:a'.toList[i*sz+f]? = some r:=h1
      rw[this];simpa using this
  · obtain⟨r,h1,h2⟩:=hho i el' hi f cv hf
    have:a'.toList[i*sz+f]? = some r:=h1
    simp only[this,Option.getD_some];exact h2.step hst
 rw[hlen] at hfin;exact hfin
theorem aSm {T:Tab} (hT:TOK P T) {ρ:Operand→LV} {val:Operand→Value} {get:Nat→Option Ob} {fresh:Nat} {o:Oper} {e:TypeId} (ho:o.op = .alloc e) {out:Out} (h:aAx T ρ get fresh o.op=some out) :
 aDs ν w X σ fresh out ((execOp val o).run P w):=by
 by_cases hnc : ∀ d f g,out.e≠.newc d f g
 · exact aS3 hT ho h hnc
 have h':=h;rw[ho] at h;simp only[aAx] at h;split at h
 · rename_i n el size by_ z eq hg;split at h
   rotate_left
   · simp at h
   rename_i sz _ _ _ hge;cases hb:(zeroCells z).all LV.shut&&Nat.ble 1 sz&&Nat.beq (n*sz) size&&Nat.beq (zeroCells z).length size&&Nat.ble n 1000
   · rw[hb] at h; simp at h
   rw[hb] at h;simp only[cond_true,Option.some.injEq] at h;subst h;simp only[Bool.and_eq_true] at hb;obtain⟨⟨⟨⟨hshut,hpos⟩,hns⟩,hzl⟩,h1000⟩:=hb;have h1000:=Nat.le_of_ble_eq_true h1000;have hpos:0<sz:=Nat.le_of_ble_eq_true hpos;have hns:=Nat.eq_of_beq_eq_true hns;have hzl:=Nat.eq_of_beq_eq_true hzl;obtain⟨_,⟨i,hi,hisz,hiby,hiz⟩,_⟩:=hT.get hg;simp only at hisz hiby hiz;have hiz:=hiz z rfl;have hl:=aGo (ν:=ν) (w:=w) (X:=X) (σ:=σ) z;have hla:=aBe hl;obtain⟨hls,hho⟩:=aDZ hl hshut n sz (by omega);intro mm hmm hpl;simp only[aBo] at hmm
   have hlen:((((List.range n).map fun j=>((zeroCells z).drop (j*sz)).take sz).map (·.map (cvOf ν)))).length=n:=by simp
   have hrun:(execOp val o).run P w = .ok (.value (.pointer (some ⟨w.heap.size,0,none⟩))) (w.alloc (.cells z.cells e)):=by
    simp[execOp,ho,Instr.alloc,aCh hi hiz,newVar,newRow]
   refine aIB hpl (by simp) hmm (Turn.alloc w _) (aAl w _) (hmx:=by omega) hpos hls (cap:=n) (rc:=n) ?_ (by rw[hlen]; exact Nat.le_refl _) (Nat.le_refl _) ?_ hrun rfl (.inr ⟨rfl,rfl⟩)
   · have:z.cells.size=(zeroCells z).length:=by simpa using hla.symm
     omega
   · intro j el' hj f cv hf;obtain⟨r,h1,h2⟩:=hho j el' hj f cv hf;exact⟨r,by rw[←h1]; simp,h2⟩
 · rename_i z _ _ hg;simp only[Option.some.injEq] at h;subst h;exact absurd (fun d f g=>by simp) hnc
 · simp at h
theorem aLE {T:Tab} (hT:TOK P T) {ρ:Operand→LV} {val:Operand→Value} {get:Nat→Option Ob} {fresh:Nat} {o:Oper} {t:TypeId} {l c:Operand} (ho:o.op = .makeSlice t l c) {out:Out} (h:aAx T ρ get fresh o.op=some out) (hn:aAZ ν out.needs)
 (ll:LR ν w X σ (ρ l) (val l)) (lc:LR ν w X σ (ρ c) (val c)):aDs ν w X σ fresh out ((execOp val o).run P w):=by
 rw[ho] at h;simp only[aAx] at h;split at h
 rotate_left
 · simp at h
 rename_i el _ _ _ _ L C hg hL hC;split at h
 rotate_left
 · simp at h
 rename_i desc sz by_ z eq hge;cases hb:Nat.ble 1 sz&&(zeroCells z).all LV.shut&&Nat.beq (zeroCells z).length sz
 · rw[hb] at h; simp at h
 rw[hb] at h;simp only[cond_true,Option.some.injEq] at h;subst h;simp only[Bool.and_eq_true] at hb;obtain⟨⟨hpos,hshut⟩,hzl⟩:=hb;have hpos:0<sz:=Nat.le_of_ble_eq_true hpos;have hzl:=Nat.eq_of_beq_eq_true hzl;have hu:=(hT.get hg).1;obtain⟨_,⟨i,hi,hisz,hiby,hiz⟩,_⟩:=hT.get hge;simp only at hisz hiby hiz hu;have hiz:=hiz z rfl;obtain⟨kl,hvl⟩:=aCT hL ll;obtain⟨kc,hvc⟩:=aCT hC lc;have hcuts:denN ν (.cuts L L C):=hn _ (by simp);have hfits:denN ν (.fits C by_):=hn _ (by simp);simp only[denN] at hcuts hfits;have hl:=aGo (ν:=ν) (w:=w) (X:=X) (σ:=σ) z;have hla:=aBe hl
 have hzs:z.cells.size=sz:=by rw[←hzl]; simpa using hla.symm
 have hby:(i.bytes:Int)*denI ν C≤281474976710656:=by
  rw[hiby,Int.mul_comm];omega
 have hrun:=run_make (P:=P) w t el i z hu hi hiz kl kc (denI ν L) (denI ν C) hcuts.1 hcuts.2.2 hby hfits.2.2;intro mm hmm hpl;simp only[aBo] at hmm
 have hlen:(List.replicate (denI ν L).toNat ((zeroCells z).map (cvOf ν))).length=(denI ν L).toNat:=by simp
 have hrun':(execOp val o).run P w = .ok (.value (.slice (some ⟨w.heap.size,0,none⟩) (denI ν L).toNat (denI ν C).toNat)) (w.alloc (.cells (madeCells z.cells ((denI ν C).toNat*i.size)) el)):=by
  simp only[execOp,ho,hvl,hvc,Sem.run_bind,hrun,Result.andThen_ok,Sem.run_pure]
 refine aIB hpl (by simp) hmm (Turn.alloc w _) (aAl w _) (hmx:=by omega) hpos (fun el hel=>?_) (cap:=(denI ν C).toNat) (rc:=(denI ν C).toNat) (by rw[size_madeCells,hisz]) (by rw[hlen]; omega) (Nat.le_refl _) ?_ hrun' rfl (.inl ⟨by rw[hlen],rfl⟩)
 · rw[(List.mem_replicate.1 hel).2,List.length_map,hzl]
 · intro j el' hj f cv hf
   have hjl:j<(denI ν L).toNat:=by
    have:=(List.getElem?_eq_some_iff.1 hj).1
    simpa using this
   rw[List.getElem?_replicate_of_lt hjl] at hj;simp only[Option.some.injEq] at hj;subst hj
   have hfl:f<sz:=by
    have:=(List.getElem?_eq_some_iff.1 hf).1
    simp only[List.length_map] at this;omega
   have h1:=(aDZ hl hshut 1 sz (by omega)).2 0 ((zeroCells z).map (cvOf ν)) (by simp[←hzl]) f cv hf;obtain⟨r,g1,g2⟩:=h1;refine⟨r,?_,g2⟩;simp only[Nat.zero_mul,Nat.zero_add] at g1
   have hlt:j*sz+f<(denI ν C).toNat*sz:=by
    have:(j+1)*sz≤(denI ν C).toNat*sz:=Nat.mul_le_mul_right _ (by omega)
    rw[Nat.add_mul] at this;omega
   have hm:(j*sz+f) % sz=f:=by rw[Nat.mul_comm,Nat.mul_add_mod,Nat.mod_eq_of_lt hfl]
   have hzf:f<z.cells.size:=by omega
   have hr:z.cells[f]=r:=by
    rw[Array.getElem?_toList,Array.getElem?_eq_getElem hzf] at g1;simpa using g1
   simp only[madeCells,hisz,hzs];rw[Array.getElem?_map,Array.getElem?_range];simp only[hlt,if_true,Option.map_some,hm];simp[hzf,hr]
theorem aLL (s:ByteArray) (c:Nat):(∀ el∈aAD s,el.length=1)∧aFh w (Exc X σ) 1 (aAD s) (fun i=>(bytesRow s c)[i]?):=by
 refine⟨fun el hel=>?_,fun i el hi f cv hf=>?_⟩
 · simp only[aAD,List.mem_map] at hel;obtain⟨b,_,rfl⟩:=hel;rfl
 · simp only[aAD,List.getElem?_map,Option.map_eq_some_iff] at hi;obtain⟨b,hb,rfl⟩:=hi
   cases f with
   | zero =>
    simp only[List.getElem?_cons_zero,Option.some.injEq] at hf;subst hf;refine⟨.int .u8 b.toNat,?_,.v _ rfl⟩
    have hlt:i<s.data.size:=by
     have:=(List.getElem?_eq_some_iff.1 hb).1
     simpa using this
    simp only[Nat.mul_one,Nat.add_zero,bytesRow];rw[Array.getElem?_append_left (by simpa using hlt),Array.getElem?_map];rw[Array.getElem?_toList] at hb;rw[hb];rfl
   | succ f=>simp at hf
theorem aP4 {T:Tab} (hT:TOK P T) {ρ:Operand→LV} {val:Operand→Value} {get:Nat→Option Ob} {fresh:Nat} {o:Oper} {src dst:TypeId} {x:Operand} (ho:o.op = .convert src dst x) {out:Out} (h:aAx T ρ get fresh o.op=some out) (hne:out.e≠.no)
 (lx:LR ν w X σ (ρ x) (val x)):aDs ν w X σ fresh out ((execOp val o).run P w):=by
 rw[ho] at h;simp only[aAx] at h;split at h
 rotate_left
 · simp at h
 rename_i ts td hgs hgd;have hd:=(hT.get hgd).1;split at h
 · simp only[Option.some.injEq] at h; subst h; exact absurd rfl hne
 · simp only[Option.some.injEq] at h; subst h; exact absurd rfl hne
 · rename_i el e hdesc hx;rw[hdesc] at hd;split at h
   rotate_left
   · simp at h
   rename_i by_ z eq hsd hge;simp only[Option.some.injEq] at h;subst h;have he:=(hT.get hge).1;have hsrc:=(hT.get hgs).1;rw[hsd] at hsrc;simp only at he;rw[hx] at lx;simp only[LR] at lx;intro mm hmm hpl;simp only[aBo] at hmm;have hr:=run_bytes_of_string (P:=P) w src dst el (denS ν e) hsrc hd he;obtain⟨hls,hho⟩:=aLL (w:=w) (X:=X) (σ:=σ) (denS ν e) (grownCap w (denS ν e).size 0 el)
   have hbl:(aAD (denS ν e)).length=(denS ν e).size:=by
    unfold aAD;rw[List.length_map,Array.length_toList];rfl
   have hge':=grownCap_ge w (denS ν e).size 0 el
   have hsz:(bytesRow (denS ν e) (grownCap w (denS ν e).size 0 el)).size=grownCap w (denS ν e).size 0 el:=by
    have h0:(denS ν e).data.size=(denS ν e).size:=rfl;simp only[bytesRow,Array.size_append,Array.size_map,Array.size_replicate,h0];omega
   refine aMj (fr:=((bytesRow (denS ν e) (grownCap w (denS ν e).size 0 el)).size,(bytesRow (denS ν e) (grownCap w (denS ν e).size 0 el)).size+1)) hpl (by simp) hmm (aDA w _) ?_ (aAl w.drew _) Nat.one_pos hls (cap:=grownCap w (denS ν e).size 0 el) (rc:=grownCap w (denS ν e).size 0 el) (by rw[hsz,Nat.mul_one]) (by rw[hbl]; exact hge') (Nat.le_refl _) hho
    (n:=.value (.slice (some ⟨w.heap.size,0,none⟩) (denS ν e).size (grownCap w (denS ν e).size 0 el))) ?_ rfl (.inl ⟨by rw[hbl],rfl⟩)
   · refine⟨fun o' h1 h2=>?_,fun h=>absurd rfl h⟩;simp only at h2;omega
   · simp only[execOp,ho,lx,Sem.run_bind,hr,Result.andThen_ok,Sem.run_pure]
 · split at h
   · split at h
     · simp only[Option.some.injEq] at h; subst h; exact absurd rfl hne
     · simp at h
   · simp at h
 · simp at h
theorem aSa {T:Tab} (hT:TOK P T) {ρ:Operand→LV} {val:Operand→Value} {get:Nat→Option Ob} {fresh:Nat} {o:Oper} {t:TypeId} {a x:Operand} (ho:o.op = .store t a x) {out:Out} (h:aAx T ρ get fresh o.op=some out) (hn:aAZ ν out.needs)
 (la:LR ν w X σ (ρ a) (val a)) (lx:LR ν w X σ (ρ x) (val x)) (hk : ∀ id,(ρ a).id? = some id→aBh ν w X σ get id) :
 aDs ν w X σ fresh out ((execOp val o).run P w):=by
 by_cases hnc : ∀ d i f g,out.e≠.updc d i f g
 · exact aQ1 hT ho h hnc la lx hk
 by_cases hrp : ∃ id ver i f,ρ a = .rp id ver i f
 · obtain⟨id,ver,i,f,hrp⟩:=hrp;exact aRj hT ho h hrp hn la lx hk
 rw[ho] at h;simp only[aAx] at h;split at h
 · rename_i ti id ver off hg hx;rw[hx] at la hk;split at h
   · have:=aAp h
     subst this;exact absurd (fun d i f g=>by simp) hnc
   · rename_i ver' c e sz hob;split at h
     rotate_left
     · simp at h
     rename_i n ne hdesc;cases hb:Nat.beq ver ver'&&(ρ x).cells.all LV.shut&&Nat.beq (ρ x).cells.length ti.size&&Nat.beq (n*sz) ti.size&&Nat.beq off 0&&Nat.ble n 1000
     · rw[hb] at h; simp at h
     rw[hb] at h;simp only[cond_true,Option.some.injEq] at h;subst h;simp only[Bool.and_eq_true] at hb;obtain⟨⟨⟨⟨⟨hv,hshut⟩,hlen⟩,hns⟩,hoff⟩,_⟩:=hb;have hlen:=Nat.eq_of_beq_eq_true hlen;have hns:=Nat.eq_of_beq_eq_true hns;obtain rfl:=Nat.eq_of_beq_eq_true hoff;have hone:=aHu hshut;have hle1:denN ν (.le (.int n) (.clen c)):=hn _ (by simp);have hle2:denN ν (.le (.clen c) (.int n)):=hn _ (by simp);simp only[denN,denI] at hle1 hle2;obtain⟨b,cap',pl,hpl,hver,hat,hva,hplsz,hpos,hcsz,hrow⟩:=aCC (ρ:=.junk) la (hk id rfl) hob hv;rcases hrow with ⟨hno,_⟩ | ⟨b2,cap,ar,fr,hat2,hh,hfr,hcap,hlen2,hcells⟩
     · rw[hat] at hno; simp at hno
     rw[hat] at hat2;simp only[Option.some.injEq,Prod.mk.injEq] at hat2;obtain⟨rfl,rfl⟩:=hat2;obtain⟨hu,⟨it,hi,hs,_,_⟩,_⟩:=hT.get hg;have lxc:=aD0 hone lx;have l1:=aBe lxc;simp only[Array.length_toList] at l1
     have hcn:(denC ν c).length=n:=by omega
     have hfit:0+0+(val x).cells.toList.length≤ar.size:=by
      have:n*sz≤cap'*sz:=Nat.mul_le_mul_right _ (by omega)
      simp
      omega
     obtain⟨w',hr,ht,hsz',hh'⟩:=aDO (P:=P) 0 (val x).cells.toList 0 ar w hh hfr.1 hfit (aI0 hone lxc);have hst:=aEe (X:=X) hpl hat ht;intro mm hmm;simp only[aBo] at hmm;obtain⟨e1,e2⟩:=aGU hmm;obtain⟨hls,hho⟩:=aDZ lxc hshut n sz (by omega);refine⟨.skip,undef,w',pl,pl,?_,.inr ⟨rfl,rfl⟩,hpl,hver,.inl rfl,.inl ⟨b,cap',cap',hat,hat,ht⟩,?_,?_⟩
     · have hne : ¬ (val x).cells.size≠it.size:=by rw[hs]; omega
       simp only[execOp,ho,Sem.run_bind,hva,Instr.storeAt,Instr.sureAddr,Sem.run_pure,Result.andThen_ok,storeVar,aAM hi,hne,if_false,hr]
     · simp only[LR];exact⟨#[],rfl,by simp[LRs]⟩
     · rw[aGt hpl];refine⟨hplsz,hpos,by rw[e1]; exact hls,.inr ⟨b,cap',putV ar 0 (val x).cells.toList 0,fr,hat,hh',by rw[aBX]; exact hfr,by rw[aBX]; exact hcap,by rw[e1]; simp; omega,fun j el hj g cv hg=>?_⟩⟩;rw[e1] at hj;obtain⟨r,g1,g2⟩:=hho j el hj g cv hg;have hput:=aGu 0 (val x).cells.toList 0 ar hfit (j*sz+g);have hlt:=(List.getElem?_eq_some_iff.1 g1).1;rw[if_pos (by omega)] at hput;exact⟨r,by rw[hput]; exact g1,g2.step hst⟩
   · simp at h
 · rename_i id ver i f hg hx;exact absurd ⟨_,_,_,_,hx⟩ hrp
 · simp at h
end
end
section
open Go.RowKit
section
variable {P:Program} {w0:Base} {ν:Nu} {w:World} {X:Nat→Prop} {σ:List Pl} {S:St} {a:Act}
theorem Kept.turn {B:Base} {o:Option Nat} {w w':World} (h:Kept B w) (ht:Turn o w w') (hb : ∀ b,o=some b→B.mine b):Kept B w' :=
 ⟨ht.os.trans h.os,ht.tape.trans h.tape,ht.output.trans h.output,Nat.le_trans h.size ht.size,fun k hk hy=>(ht.heap k (Nat.lt_of_lt_of_le hk h.size) (fun e=>by
  rcases hb k e with h1 | h1
  · omega
  · exact hy h1)).trans (h.block k hk hy),h.gy,fun b a e fr h0=>by
  obtain⟨a1,e1,fr1,h1,h2⟩:=h.ysz b a e fr h0;obtain⟨a2,e2,fr2,h3,h4⟩:=ht.sz b a1 e1 fr1 h1;exact⟨a2,e2,fr2,h3,h4.trans h2⟩⟩
theorem Glo.kept {B:Base} {w:World} (h:Glo B.w) (hk:Kept B w):Glo w:=fun g hg=>by
 obtain⟨m,hm⟩:=h g hg;refine⟨m,?_⟩;have hlt:=World.block_lt_of_cell? _ _ hm;rw[aCH (hk.block g hlt (hk.gy g hg))];exact hm
theorem Rel.free (h:Rel w0 X ν S σ a w) {b:Nat} (ho:Own σ b) (hx:X b):False:=by
 obtain⟨h1,h2⟩:=h.ex b hx;rcases (h.own b ho).1 with h3 | h3
 · omega
 · exact h2 h3
theorem aGP : ∀ {cs:List LV} {rs:List Value} (_:LRs ν w X σ cs rs) (i:Nat) (v:LV),(∀ r,rs[i]? = some r→LR ν w X σ v r)→LRs ν w X σ (setL cs i v) rs
 | [],[],_,_,_,_=>by simp[setL,LRs]
 | c::cs,r::rs,h,0,v,hv=>by
  simp only[LRs] at h;simp only[setL,LRs];exact⟨hv r rfl,h.2⟩
 | c::cs,r::rs,h,i+1,v,hv=>by
  simp only[LRs] at h;simp only[setL,LRs];exact⟨h.1,aGP h.2 i v (fun r hr=>hv r (by simpa using hr))⟩
 | [],_::_,h,_,_,_=>by simp only[LRs] at h
 | _::_,[],h,_,_,_=>by simp only[LRs] at h
theorem Rel.put (h:Rel w0 X ν S σ a w) (dst:Option Tmp) {v:LV} {r:Value} (lv:LR ν w X σ v r):Rel w0 X ν (S.put dst v) σ (a.put dst r) w:=by
 cases dst with
 | none=>exact h
 | some d =>
  have e:({ a with tmps:=a.tmps.setIfInBounds d r }:Act).tmps.toList=a.tmps.toList.set d r:=by simp
  exact { defers:=h.defers,F:=by
           show LRs ν w X σ (setL S.F d v) (a.tmps.setIfInBounds d r).toList;rw[Array.toList_setIfInBounds];exact aK7 h.F d v r lv
          len:=h.len,L:=h.L,inj:=h.inj,own:=h.own,old:=h.old,ex:=h.ex,glo:=h.glo,n:=h.n,G:=h.G }
theorem Rel.reset (h:Rel w0 X ν S σ a w) (d:Nat) {v:LV} (hv : ∀ r,a.tmps[d]? = some r→LR ν w X σ v r):Rel w0 X ν { S with F:=setL S.F d v } σ a w :=
 { defers:=h.defers,F:=aGP h.F d v (fun r hr=>hv r (by simpa using hr)),len:=h.len,L:=h.L,inj:=h.inj,own:=h.own,old:=h.old,ex:=h.ex,glo:=h.glo,n:=h.n,G:=h.G }
theorem aG4 : ∀ (l:List Ob) (i:Nat) (x:Ob),getO l i=some x→i<l.length
 | [],i,x,h=>by simp[getO] at h
 | _::_,0,x,h=>by simp
 | _::l,i+1,x,h=>by
  have:=aG4 l i x (by simpa[getO] using h)
  simp; omega
theorem aGv : ∀ (l:List Ob) (x:Ob) (i:Nat),getO (l++[x]) i=if i<l.length then getO l i else if i=l.length then some x else none
 | [],x,i=>by
  cases i <;> simp[getO]
 | y::l,x,0=>by simp[getO]
 | y::l,x,i+1=>by
  simp only[List.cons_append,getO,aGv l x i,List.length_cons,Nat.add_lt_add_iff_right,Nat.add_right_cancel_iff]
theorem aDi : ∀ (l:List Ob) (i:Nat) (x:Ob) (j:Nat),getO (setO l i x) j=if j=i∧i<l.length then some x else getO l j
 | [],i,x,j=>by simp[setO,getO]
 | y::l,0,x,0=>by simp[setO,getO]
 | y::l,0,x,j+1=>by simp[setO,getO]
 | y::l,i+1,x,0=>by simp[setO,getO]
 | y::l,i+1,x,j+1=>by
  simp only[setO,getO,aDi l i x j,Nat.add_right_cancel_iff,List.length_cons,Nat.add_lt_add_iff_right]
theorem aES : ∀ (l:List Ob) (i:Nat) (x:Ob),(setO l i x).length=l.length
 | [],_,_=>rfl
 | _::_,0,_=>rfl
 | _::l,i+1,x=>by simp[setO,aES l i x]
theorem Rel.new (h:Rel w0 X ν S σ a w) {w':World} {pl:Pl} {o:LO} (ht:Turn none w w') (hp:aTo w w' pl) (hv:pl.ver=0) (ho:OR ν w' X (σ++[pl]) pl o) (n:Nat) (hn:ν.length=n) :
 Rel w0 X ν { S with L:=S.L++[⟨0,o⟩],n:=n } (σ++[pl]) a w':=by
 have hst:=aPx (X:=X) (σ:=σ) ht hp;have hla:=aO7 (σ:=σ) pl;have hw0:w0.w.heap.size≤w.heap.size:=h.old.size;have oldB : ∀ (i:Nat) (p:Pl) (b c:Nat),σ[i]? = some p→p.at_=some (b,c)→b<w.heap.size:=fun i p b c hi hc=>(h.own b ⟨i,p,c,hi,hc⟩).2
 have newB : ∀ (b c:Nat),pl.at_=some (b,c)→b=w.heap.size∧w.heap.size<w'.heap.size:=fun b c hc=>by
  rcases hp with hp | ⟨c',hp,hlt⟩
  · rw[hp] at hc; simp at hc
  · rw[hp] at hc;simp only[Option.some.injEq,Prod.mk.injEq] at hc;exact⟨hc.1.symm,hlt⟩
 have split' : ∀ (i:Nat) (p:Pl),(σ++[pl])[i]? = some p→(i<σ.length∧σ[i]? = some p)∨(i=σ.length∧p=pl):=fun i p hi=>by
  by_cases hlt:i<σ.length
  · rw[List.getElem?_append_left hlt] at hi;exact .inl ⟨hlt,hi⟩
  · rw[List.getElem?_append_right (by omega)] at hi
    cases h0:i - σ.length with
    | succ k=>rw[h0] at hi; simp at hi
    | zero =>
     rw[h0] at hi;simp only[List.getElem?_cons_zero,Option.some.injEq] at hi;exact .inr ⟨by omega,hi.symm⟩
 refine { defers:=h.defers,F:=LRs.step hst hla _ _ h.F,len:=by simp[h.len],L:=?_,inj:=?_,own:=?_,old:=h.old.turn ht (fun b hb=>by simp at hb),ex:=h.ex,glo:=h.glo,n:=hn,G:=LRs.step hst hla _ _ h.G }
 · intro i ob p hob hi;simp only[aGv] at hob;rcases split' i p hi with ⟨hlt,hi'⟩ | ⟨rfl,rfl⟩
   · rw[if_pos (by rw[←h.len]; exact hlt)] at hob;obtain⟨h1,h2⟩:=h.L i ob p hob hi';exact⟨h1,OR.step hst hla (fun b c hc=>ht.heap b (oldB i p b c hi' hc) (by simp)) _ h2⟩
   · rw[if_neg (by rw[h.len]; omega),if_pos h.len] at hob;simp only[Option.some.injEq] at hob;subst hob;exact⟨hv,ho⟩
 · intro i j p q b c d hi hj hc hd;rcases split' i p hi with ⟨hlt,hi'⟩ | ⟨rfl,rfl⟩ <;> rcases split' j q hj with ⟨hlt',hj'⟩ | ⟨rfl,rfl⟩
   · exact h.inj i j p q b c d hi' hj' hc hd
   · have:=oldB i p b c hi' hc
     have:=(newB b d hd).1
     omega
   · have:=oldB j q b d hj' hd
     have:=(newB b c hc).1
     omega
   · rfl
 · rintro b ⟨i,p,c,hi,hc⟩;rcases split' i p hi with ⟨hlt,hi'⟩ | ⟨rfl,rfl⟩
   · have h1:=h.own b ⟨i,p,c,hi',hc⟩
     have:=ht.size
     exact⟨h1.1,by omega⟩
   · have:=newB b c hc
     exact⟨.inl (by omega),by omega⟩
theorem Rel.upd (h:Rel w0 X ν S σ a w) {w':World} {i:Nat} {pl pl':Pl} {ob:Ob} (hpl:σ[i]? = some pl) (hv:pl'.ver=ob.ver) (hvv:pl'=pl∨pl.ver<pl'.ver)
 (hm:aGf w w' pl pl') (ho:OR ν w' X (σ.set i pl') pl' ob.o) :
 Rel w0 X ν { S with L:=setO S.L i ob } (σ.set i pl') a w':=by
 have hw0:w0.w.heap.size≤w.heap.size:=h.old.size;have hi0:i<σ.length:=(List.getElem?_eq_some_iff.1 hpl).1;have oldB : ∀ (j:Nat) (p:Pl) (b c:Nat),σ[j]? = some p→p.at_=some (b,c)→w0.mine b∧b<w.heap.size:=fun j p b c hj hc=>h.own b ⟨j,p,c,hj,hc⟩;have get:=fun j p hj=>aEy (pl':=pl') hpl j p hj;have hla:Later' σ (σ.set i pl'):=aFf hpl hvv
 have hsz:w.heap.size≤w'.heap.size:=by
  rcases hm with ⟨_,_,_,_,_,ht⟩ | ⟨ht,_⟩ <;> exact ht.size
 have hst:Stays (Exc X σ) (Exc X (σ.set i pl')) w w':=aDV hpl hm
 have other : ∀ (j:Nat) (p:Pl),j≠i→σ[j]? = some p→Same p w w':=fun j p hne hj b c hc =>
  aJW hm b (oldB j p b c hj hc).2 (fun c' hc'=>hne (h.inj j i p pl b c c' hj hpl hc hc'))
 refine { defers:=h.defers,F:=LRs.step hst hla _ _ h.F,len:=by simp[h.len,aES],L:=?_,inj:=?_,own:=?_,old:=?_,ex:=h.ex,glo:=h.glo,n:=h.n,G:=LRs.step hst hla _ _ h.G }
 · intro j ob' p hob hj;simp only[aDi] at hob;rcases get j p hj with ⟨rfl,rfl⟩ | ⟨hne,hj'⟩
   · rw[if_pos ⟨rfl,by rw[←h.len]; exact hi0⟩] at hob;simp only[Option.some.injEq] at hob;subst hob;exact⟨hv,ho⟩
   · rw[if_neg (by intro e; exact hne e.1)] at hob;obtain⟨h1,h2⟩:=h.L j ob' p hob hj';exact⟨h1,OR.step hst hla (other j p hne hj') _ h2⟩
 · intro j k p q b c d hj hk hc hd;rcases get j p hj with ⟨rfl,rfl⟩ | ⟨hne,hj'⟩ <;> rcases get k q hk with ⟨rfl,rfl⟩ | ⟨hne',hk'⟩
   · rfl
   · rcases aGz hm b c hc with ⟨c',h1⟩ | ⟨rfl,_⟩
     · exact h.inj j k pl q b c' d hpl hk' h1 hd
     · have:=oldB k q _ d hk' hd
       omega
   · rcases aGz hm b d hd with ⟨c',h1⟩ | ⟨rfl,_⟩
     · exact h.inj j k p pl b c c' hj' hpl hc h1
     · have:=oldB j p _ c hj' hc
       omega
   · exact h.inj j k p q b c d hj' hk' hc hd
 · rintro b ⟨j,p,c,hj,hc⟩;rcases get j p hj with ⟨rfl,rfl⟩ | ⟨hne,hj'⟩
   · rcases aGz hm b c hc with ⟨c',h1⟩ | ⟨rfl,hlt⟩
     · have:=oldB j pl b c' hpl h1
       exact⟨this.1,by omega⟩
     · exact⟨.inl (by omega),by omega⟩
   · have:=oldB j p b c hj' hc
     exact⟨this.1,by omega⟩
 · rcases hm with ⟨b,c,c',h1,h2,ht⟩ | ⟨ht,_⟩
   · exact h.old.turn ht (fun b' hb'=>by
      simp only[Option.some.injEq] at hb';subst hb';exact (oldB i pl _ c hpl h1).1)
   · exact h.old.turn ht (fun b' hb'=>by simp at hb')
theorem Rel.updM (h:Rel w0 X ν S σ a w) {w':World} {i:Nat} {pl pl':Pl} {ob:Ob} (hpl:σ[i]? = some pl) (hv:pl'.ver=ob.ver) (hvv:pl'=pl∨pl.ver<pl'.ver)
 (ht:Turn (pl.at_.map (·.1)) w w') (hat : ∀ b c,pl'.at_=some (b,c)→((∃ c',pl.at_=some (b,c'))∨w.heap.size≤b)∧b<w'.heap.size) (ho:OR ν w' X (σ.set i pl') pl' ob.o) :
 Rel w0 X ν { S with L:=setO S.L i ob } (σ.set i pl') a w':=by
 have hw0:w0.w.heap.size≤w.heap.size:=h.old.size;have hi0:i<σ.length:=(List.getElem?_eq_some_iff.1 hpl).1;have oldB : ∀ (j:Nat) (p:Pl) (b c:Nat),σ[j]? = some p→p.at_=some (b,c)→w0.mine b∧b<w.heap.size:=fun j p b c hj hc=>h.own b ⟨j,p,c,hj,hc⟩;have get:=fun j p hj=>aEy (pl':=pl') hpl j p hj;have hla:Later' σ (σ.set i pl'):=aFf hpl hvv;have hsz:w.heap.size≤w'.heap.size:=ht.size
 have still : ∀ b,b<w.heap.size→(∀ c,pl.at_≠some (b,c))→w'.heap[b]? = w.heap[b]?:=fun b hb hne=>ht.heap b hb (fun e=>by
  cases hp:pl.at_ with
  | none=>rw[hp] at e; simp at e
  | some q =>
   rw[hp] at e;simp only[Option.map_some,Option.some.injEq] at e;exact hne q.2 (by rw[hp,←e]))
 have hst:Stays (Exc X σ) (Exc X (σ.set i pl')) w w':=by
  refine⟨fun b hb hlt=>still b hlt (fun c hc=>hb (.inr ⟨i,pl,c,hpl,hc⟩)),fun b hb=>?_,hsz⟩;rcases hb with hb | ⟨j,p,c,hj,hc⟩
  · exact .inl (.inl hb)
  · rcases get j p hj with ⟨rfl,rfl⟩ | ⟨hne,hj'⟩
    · rcases (hat b c hc).1 with ⟨c',h1⟩ | h1
      · exact .inl (.inr ⟨j,pl,c',hpl,h1⟩)
      · exact .inr h1
    · exact .inl (.inr ⟨j,p,c,hj',hc⟩)
 have other : ∀ (j:Nat) (p:Pl),j≠i→σ[j]? = some p→Same p w w':=fun j p hne hj b c hc =>
  still b (oldB j p b c hj hc).2 (fun c' hc'=>hne (h.inj j i p pl b c c' hj hpl hc hc'))
 refine { defers:=h.defers,F:=LRs.step hst hla _ _ h.F,len:=by simp[h.len,aES],L:=?_,inj:=?_,own:=?_,old:=?_,ex:=h.ex,glo:=h.glo,n:=h.n,G:=LRs.step hst hla _ _ h.G }
 · intro j ob' p hob hj;simp only[aDi] at hob;rcases get j p hj with ⟨rfl,rfl⟩ | ⟨hne,hj'⟩
   · rw[if_pos ⟨rfl,by rw[←h.len]; exact hi0⟩] at hob;simp only[Option.some.injEq] at hob;subst hob;exact⟨hv,ho⟩
   · rw[if_neg (by intro e; exact hne e.1)] at hob;obtain⟨h1,h2⟩:=h.L j ob' p hob hj';exact⟨h1,OR.step hst hla (other j p hne hj') _ h2⟩
 · intro j k p q b c d hj hk hc hd;rcases get j p hj with ⟨rfl,rfl⟩ | ⟨hne,hj'⟩ <;> rcases get k q hk with ⟨rfl,rfl⟩ | ⟨hne',hk'⟩
   · rfl
   · rcases (hat b c hc).1 with ⟨c',h1⟩ | h1
     · exact h.inj j k pl q b c' d hpl hk' h1 hd
     · have:=oldB k q b d hk' hd
       omega
   · rcases (hat b d hd).1 with ⟨c',h1⟩ | h1
     · exact h.inj j k p pl b c c' hj' hpl hc h1
     · have:=oldB j p b c hj' hc
       omega
   · exact h.inj j k p q b c d hj' hk' hc hd
 · rintro b ⟨j,p,c,hj,hc⟩;rcases get j p hj with ⟨rfl,rfl⟩ | ⟨hne,hj'⟩
   · refine⟨?_,(hat b c hc).2⟩;rcases (hat b c hc).1 with ⟨c',h1⟩ | h1
     · exact (oldB j pl b c' hpl h1).1
     · exact .inl (by omega)
   · have:=oldB j p b c hj' hc
     exact⟨this.1,by omega⟩
 · exact h.old.turn ht (fun b hb=>by
    cases hp:pl.at_ with
    | none=>rw[hp] at hb; simp at hb
    | some q =>
     rw[hp] at hb;simp only[Option.map_some,Option.some.injEq] at hb;exact (oldB i pl b q.2 hpl (by rw[hp,←hb])).1)
theorem aJx : ∀ (n:Nat) (l:List Ob) (i:Nat) (x:Ob),aHB n l=true→x.o.ok n=true→aHB n (setO l i x)=true
 | n,[],i,x,h,_=>by simpa[setO] using h
 | n,y::l,0,x,h,hx=>by
  simp only[aHB,Bool.and_eq_true] at h;simp only[setO,aHB,Bool.and_eq_true];exact⟨hx,h.2⟩
 | n,y::l,i+1,x,h,hx=>by
  simp only[aHB,Bool.and_eq_true] at h;simp only[setO,aHB,Bool.and_eq_true];exact⟨h.1,aJx n l i x h.2 hx⟩
theorem aUF {get:Nat→Option Ob} {vs:List LV} {i:Nat} {ob:Ob} (hf:frz get vs=some (i,ob)) (n:Nat):ob.o.ok n=true:=by
 unfold frz at hf;split at hf
 · split at hf
   · simp only[Option.some.injEq,Prod.mk.injEq] at hf;obtain⟨_,rfl⟩:=hf;rfl
   · simp at hf
 · simp at hf
def szO:LO→Nat
 | .row _ _ sz=>sz
 | _=>0
theorem aI6 (h:Rel w0 X ν S σ a w) {vs as_:List LV} {rs:List Value} {ns:List Need} {get:Nat→Option Ob} (hs:aA0 get vs=some (as_,ns)) (hl:LRs ν w X σ vs rs) (hk : ∀ v∈vs,∀ id,v.id? = some id→aBh ν w X σ get id) (hn:aAZ ν ns)
 {i:Nat} {ob:Ob} (hf:frz get vs=some (i,ob)):Rel w0 X ν { S with L:=setO S.L i ob } (σ.set i ⟨ob.ver,none,szO ob.o⟩) a w∧DVRs w (Exc X (σ.set i ⟨ob.ver,none,szO ob.o⟩)) (aAX ν as_) rs:=by
 have key : ∀ (vs:List LV) (id:Nat),rsId vs=some id→(∃ v∈vs,v.id? = some id)∧∀ v∈vs,isRs v=true→v.id? = some id:=by
  intro vs
  induction vs with
  | nil=>intro id h; simp[rsId] at h
  | cons v vs ih =>
   intro id h
   have other:isRs v=false→rsId vs=some id→(∃ v'∈v::vs,v'.id? = some id)∧∀ v'∈v::vs,isRs v'=true→v'.id? = some id:=fun hv hr=>by
    obtain⟨⟨v',h1,h2⟩,h3⟩:=ih id hr
    exact⟨⟨v',by simp[h1],h2⟩,fun v'' hm hi=>by
     rcases List.mem_cons.1 hm with rfl | hm
     · rw[hv] at hi; cases hi
     · exact h3 v'' hm hi⟩
   cases v with
   | rs id' ver o n =>
    simp only[rsId] at h;cases hb:vs.any isRs
    · rw[hb] at h;simp only[cond_false,Option.some.injEq] at h;subst h
      exact⟨⟨.rs id' ver o n,by simp,rfl⟩,fun v'' hm hi=>by
       rcases List.mem_cons.1 hm with rfl | hm
       · rfl
       · have:=List.any_eq_false.1 hb v'' hm
         rw[hi] at this; simp at this⟩
    · rw[hb] at h; simp at h
   | _=>exact other rfl (by simpa[rsId] using h)
 unfold frz at hf;split at hf
 rotate_left
 · simp at hf
 rename_i id hid;split at hf
 rotate_left
 · simp at hf
 rename_i ver c e sz hob;simp only[Option.some.injEq,Prod.mk.injEq] at hf;obtain⟨rfl,rfl⟩:=hf;obtain⟨⟨v0,hv0,hi0⟩,honly⟩:=key vs id hid;obtain⟨pl,hpl,hver,ho⟩:=hk v0 hv0 id hi0 _ hob;obtain⟨h1,h2,_,_⟩:=ho
 have hR:=h.upd (w':=w) (i:=id) (pl:=pl) (pl':=⟨ver+1,none,sz⟩) (ob:=⟨ver+1,.row (.str []) e sz⟩) hpl rfl (.inr (by rw[hver]; exact Nat.lt_succ_self _)) (.inr ⟨Turn.refl _ _,.inl rfl⟩)
  ⟨rfl,h2,fun el hel=>by simp[denC] at hel,.inl ⟨rfl,by simp[denC]⟩⟩
 refine⟨hR,aHt (fun b hb=>?_) hs hl hk hn (fun v hv=>?_)⟩
 · rcases hb with hb | ⟨j,p,c',hj,hc⟩
   · exact .inl hb
   · rcases aEy (pl':=⟨ver+1,none,sz⟩) hpl j p hj with ⟨rfl,rfl⟩ | ⟨hne,hj'⟩
     · simp at hc
     · exact .inr ⟨j,p,c',hj',hc⟩
 · cases hr:isRs v
   · exact .inl rfl
   · refine .inr fun id' p b c' hi' hp hc hb=>?_
     have:=honly v hv hr
     rw[this] at hi';simp only[Option.some.injEq] at hi';subst hi';rcases hb with hb | ⟨j,q,c'',hj,hc'⟩
     · exact h.free ⟨id,p,c',hp,hc⟩ hb
     · rcases aEy (pl':=⟨ver+1,none,sz⟩) hpl j q hj with ⟨rfl,rfl⟩ | ⟨hne,hj'⟩
       · simp at hc'
       · exact hne (h.inj j id q p b c'' c' hj' hp hc' hc)
theorem Rel.hole (h:Rel w0 X ν S σ a w):Rel w0 X ν { S with L:=S.L++[⟨0,.hole⟩] } (σ++[⟨0,none,0⟩]) a w :=
 h.new (Turn.refl _ _) (o:=.hole) (pl:=⟨0,none,0⟩) (.inl rfl) rfl (by simp only[OR]) S.n h.n
theorem aM8 (l:List Ob) (x y:Ob):setO (l++[x]) l.length y=l++[y]:=by
 induction l with
 | nil=>rfl
 | cons z l ih=>simp[setO,ih]
theorem aJm : ∀ (n:Nat) (l:List Ob) (i:Nat) (x:Ob),aHB n l=true→getO l i=some x→x.o.ok n=true
 | n,[],i,x,_,h=>by simp[getO] at h
 | n,y::l,0,x,hk,h=>by
  simp only[aHB,Bool.and_eq_true] at hk;simp only[getO,Option.some.injEq] at h;subst h;exact hk.1
 | n,y::l,i+1,x,hk,h=>by
  simp only[aHB,Bool.and_eq_true] at hk;exact aJm n l i x hk.2 (by simpa[getO] using h)
theorem Rel.more (h:Rel w0 X ν S σ a w) (hok:S.ok=true) (ds:Nu):Rel w0 X (ν++ds) { S with n:=S.n+ds.length } σ a w:=by
 simp only[St.ok,Bool.and_eq_true] at hok;rw[←h.n] at hok
 exact { defers:=h.defers,F:=aEJ ν ds w X σ _ _ hok.1 h.F,len:=h.len,L:=fun i ob pl hob hi=>by
          obtain⟨h1,h2⟩:=h.L i ob pl hob hi;exact⟨h1,aUN ν ds w X σ pl _ (aJm _ _ i ob hok.2.1 hob) h2⟩
         inj:=h.inj,own:=h.own,old:=h.old,ex:=h.ex,glo:=h.glo,n:=by simp[h.n],G:=aEJ ν ds w X σ _ _ hok.2.2 h.G }
end
end
section
open Go.RowKit
def mkD (ν:Nu):Srt×E→D
 | (.i,e)=>.i (denI ν e)
 | (.b,e)=>.b (denB ν e)
 | (.s,e)=>.s (denS ν e)
 | (.l,e)=>.l (denC ν e)
section
variable {P:Program} {w0:Base} {ν:Nu} {w:World} {X:Nat→Prop} {σ σ':List Pl} {S H:St} {a:Act} {M:Mt}
theorem aOU : ∀ (ν ds:Nu) (n:Nat),ν.length≤n→Nu.at (ν++ds) n=Nu.at ds (n - ν.length)
 | [],ds,n,_=>rfl
 | d::ν,ds,0,h=>by simp at h
 | d::ν,ds,n+1,h=>by
  simp only[List.cons_append,List.length_cons,Nat.add_sub_add_right];simp only[Nu.at];exact aOU ν ds n (by simpa using h)
theorem aSz (ν:Nu) : ∀ (θ:List (Srt×E)) (k:Nat) (p:Srt×E),θAt θ k=some p→Nu.at (θ.map (mkD ν)) k=mkD ν p
 | [],k,p,h=>by simp[θAt] at h
 | q::θ,0,p,h=>by
  simp only[θAt,Option.some.injEq] at h;subst h;rfl
 | q::θ,k+1,p,h=>by
  simp only[List.map_cons,Nu.at];exact aSz ν θ k p (by simpa[θAt] using h)
def nu2 (M:Mt) (ν:Nu):Nu:=ν.take M.n0++M.θ.map (mkD ν)
theorem aUj (h0:M.n0≤ν.length) {e:E} (h:e.ok M.n0=true):denI (nu2 M ν) e=denI ν e∧denB (nu2 M ν) e=denB ν e∧denS (nu2 M ν) e=denS ν e∧denC (nu2 M ν) e=denC ν e:=by
 have hl:(ν.take M.n0).length=M.n0:=by simp[h0]
 have h1:=aFC (ν.take M.n0) (M.θ.map (mkD ν)) e (by rw[hl]; exact h);have h2:=aFC (ν.take M.n0) (ν.drop M.n0) e (by rw[hl]; exact h);rw[List.take_append_drop] at h2;unfold nu2;exact⟨h1.1.trans h2.1.symm,h1.2.1.trans h2.2.1.symm,h1.2.2.1.trans h2.2.2.1.symm,h1.2.2.2.trans h2.2.2.2.symm⟩
theorem aTq (h0:M.n0≤ν.length) {e:E} (h:e.ok M.n0=true):cvE (nu2 M ν) e=cvE ν e:=by
 have hl:(ν.take M.n0).length=M.n0:=by simp[h0]
 have h1:=aGG (ν.take M.n0) (M.θ.map (mkD ν)) e (by rw[hl]; exact h);have h2:=aGG (ν.take M.n0) (ν.drop M.n0) e (by rw[hl]; exact h);rw[List.take_append_drop] at h2;unfold nu2;exact h1.trans h2.symm
theorem aST (h0:M.n0≤ν.length) {m:Nat} (hm:M.n0≤m) {p:Srt×E} (h:θAt M.θ (m - M.n0)=some p):Nu.at (nu2 M ν) m=mkD ν p:=by
 have hl:(ν.take M.n0).length=M.n0:=by simp[h0]
 unfold nu2;rw[aOU _ _ _ (by omega),hl];exact aSz ν _ _ _ h
theorem aIC (h0:M.n0≤ν.length) {q:Srt} {h e:E} (ho:okT M q h e=true):(q = .i→denI (nu2 M ν) h=denI ν e)∧(q = .b→denB (nu2 M ν) h=denB ν e)∧(q = .s→denS (nu2 M ν) h=denS ν e)∧(q = .l→denC (nu2 M ν) h=denC ν e):=by
 have low : ∀ m:Nat,Nat.ble M.n0 m=false→(E.var m).ok M.n0=true:=fun m hm=>by
  simp only[E.ok]
  rw[Nat.blt_eq]; exact Nat.lt_of_not_le fun h=>by rw[Nat.ble_eq_true_of_le h] at hm; cases hm
 have eqs : ∀ {x:E},x.ok M.n0=true→e=x→(q = .i→denI (nu2 M ν) x=denI ν e)∧(q = .b→denB (nu2 M ν) x=denB ν e)∧(q = .s→denS (nu2 M ν) x=denS ν e)∧(q = .l→denC (nu2 M ν) x=denC ν e):=fun hx he=>by
  subst he
  have:=aUj h0 hx
  exact⟨fun _=>this.1,fun _=>this.2.1,fun _=>this.2.2.1,fun _=>this.2.2.2⟩
 unfold okT at ho;split at ho
 · rename_i m;cases hb:Nat.ble M.n0 m
   · rw[hb] at ho;simp only[cond_false,decide_eq_true_eq] at ho;exact eqs (low m hb) ho
   · rw[hb] at ho;simp only[cond_true] at ho;split at ho
     · rename_i q' e' hθ;simp only[Bool.and_eq_true,decide_eq_true_eq] at ho;obtain⟨rfl,rfl⟩:=ho
       have:=aST h0 (by simpa using hb) hθ
       refine⟨fun hs=>?_,fun hs=>?_,fun hs=>?_,fun hs=>?_⟩ <;> subst hs <;> first | simp only[denI,this,mkD,D.int] | simp only[denB,this,mkD,D.bool] | simp only[denS,this,mkD,D.str] | simp only[denC,this,mkD,D.els]
     · simp at ho
 · rename_i m;cases hb:Nat.ble M.n0 m
   · rw[hb] at ho;simp only[cond_false,decide_eq_true_eq] at ho;exact eqs (by simpa only[E.ok] using low m hb) ho
   · rw[hb] at ho;simp only[cond_true] at ho;split at ho
     · rename_i d e' hθ;simp only[decide_eq_true_eq] at ho;subst ho
       have:=aST h0 (by simpa using hb) hθ
       refine⟨fun hs=>?_,fun hs=>?_,fun hs=>?_,fun hs=>?_⟩
       · simp only[denI,denC,this,mkD,D.els]
       · simp only[denB]
       · simp only[denS]
       · simp only[denC]
     · simp at ho
 · simp only[Bool.and_eq_true,decide_eq_true_eq] at ho;exact eqs ho.1 ho.2
theorem aOl (h0:M.n0≤ν.length) {h e:E} (ho:okT M .i h e=true):denI (nu2 M ν) h=denI ν e:=(aIC h0 ho).1 rfl
theorem aVH (h0:M.n0≤ν.length) {h e:E} (ho:okT M .b h e=true):denB (nu2 M ν) h=denB ν e:=(aIC h0 ho).2.1 rfl
theorem aVe (h0:M.n0≤ν.length) {h e:E} (ho:okT M .s h e=true):denS (nu2 M ν) h=denS ν e:=(aIC h0 ho).2.2.1 rfl
theorem aN8 (h0:M.n0≤ν.length) {h e:E} (ho:okT M .l h e=true):denC (nu2 M ν) h=denC ν e:=(aIC h0 ho).2.2.2 rfl
theorem aRl {v v':Value} (h:aSh v v'=true):v=v':=by
 unfold aSh at h;split at h
 · rfl
 · simp only[Bool.and_eq_true,Array.isEmpty_iff] at h;obtain⟨⟨⟨⟨h1,h2⟩,h3⟩,h4⟩,h5⟩:=h;subst h2 h3 h4 h5;rw[Nat.eq_of_beq_eq_true h1]
 · rfl
 · rfl
 · simp at h
structure Under (M:Mt) (HL SL:List Ob) (σ σ':List Pl):Prop where
 same : ∀ (j k v v':Nat),idAt M.ids j=some (some k)→aEF HL j v=true→aEF SL k v'=true→∀ pl:Pl,σ[k]? = some pl→σ'[j]? = some { pl with ver:=v }
 none : ∀ (j v:Nat),idAt M.ids j=some none→aEF HL j v=true→∃ sz,σ'[j]? = some ⟨v,.none,sz⟩
 own : ∀ b,Own σ' b→Own σ b
 ver : ∀ (k v:Nat),aEF SL k v=true→∀ pl:Pl,σ[k]? = some pl→pl.ver=v
theorem aL1 {o:Option (Option Nat)} {id:Nat} (h:isId o id=true):o=some (some id):=by
 unfold isId at h;split at h
 · rw[Nat.eq_of_beq_eq_true h]
 · simp at h
theorem aRO {o:Option (Option Nat)} (h:aQQ o=true):o=some none:=by
 unfold aQQ at h;split at h
 · rfl
 · simp at h
theorem aVP {v:LV} {HL SL:List Ob} {h:E} (ho:okV M HL SL (.vs h) v=true) (hv : ∀ e,v≠.vs e):v = .k (.slice none 0 0)∧okT M .l h (.str [])=true:=by
 unfold okV at ho;split at ho <;> simp_all
theorem aVc {v:LV} {HL SL:List Ob} {j ver:Nat} {o n:E} (ho:okV M HL SL (.rs j ver o n) v=true) (hv : ∀ a b c d,v≠.rs a b c d):v = .k (.slice none 0 0)∧aEF HL j ver=true∧aQQ (idAt M.ids j)=true∧aCF o=true∧okT M .i n (.clen (.str []))=true:=by
 cases v with
 | rs a b c d=>exact absurd rfl (hv a b c d)
 | k x =>
  unfold okV at ho;split at ho <;> simp_all
 | _=>simp[okV] at ho
mutual
theorem aSU (h0:M.n0≤ν.length) {HL SL:List Ob} (hU:Under M HL SL σ σ') : ∀ (h v:LV) (r:Value),okV M HL SL h v=true→LR ν w X σ v r→LR (nu2 M ν) w X σ' h r
 | .junk,v,r,_,_=>by simp only[LR]
 | .b h,v,r,ho,l=>by
  cases v with
  | b e =>
   simp only[LR] at l ⊢;rw[aVH h0 (by simpa only[okV] using ho)];exact l
  | _=>simp[okV] at ho
 | .i k h,v,r,ho,l=>by
  cases v with
  | i k' e =>
   simp only[okV,Bool.and_eq_true,aIE] at ho;simp only[LR] at l ⊢;rw[aOl h0 ho.2,ho.1];exact l
  | _=>simp[okV] at ho
 | .s h,v,r,ho,l=>by
  cases v with
  | s e =>
   simp only[LR] at l ⊢;rw[aVe h0 (by simpa only[okV] using ho)];exact l
  | _=>simp[okV] at ho
 | .vs h,v,r,ho,l=>by
  by_cases hv : ∃ e,v = .vs e
  · obtain⟨e,rfl⟩:=hv;simp only[LR] at l ⊢;rw[aN8 h0 (by simpa only[okV] using ho)];refine l.mono fun b hb=>?_;rcases hb with hb | hb
    · exact .inl hb
    · exact .inr (hU.own b hb)
  · obtain⟨rfl,h2⟩:=aVP ho (fun e he=>hv ⟨e,he⟩);simp only[LR] at l ⊢;subst l;rw[aN8 h0 h2];simp only[denC];exact .nil _
 | .k x,v,r,ho,l=>by
  cases v with
  | k v' =>
   simp only[LR] at l ⊢;rw[aRl (v:=x) (v':=v') (by simpa only[okV] using ho)];exact l
  | _=>simp[okV] at ho
 | .o h,v,r,ho,l=>by
  cases v with
  | o e =>
   simp only[okV,Bool.and_eq_true,decide_eq_true_eq] at ho;obtain⟨ho,rfl⟩:=ho;simp only[LR] at l ⊢;rw[aTq h0 ho];refine l.mono fun b hb=>?_;rcases hb with hb | hb
   · exact .inl hb
   · exact .inr (hU.own b hb)
  | _=>simp[okV] at ho
 | .agg cs,v,r,ho,l=>by
  cases v with
  | agg es =>
   simp only[LR] at l ⊢;obtain⟨ar,hr,ha⟩:=l;exact⟨ar,hr,aDa h0 hU cs es ar.toList (by simpa only[okV] using ho) ha⟩
  | _=>simp[okV] at ho
 | .tup cs,v,r,ho,l=>by
  cases v with
  | tup es =>
   simp only[LR] at l ⊢;obtain⟨ar,hr,ha⟩:=l;exact⟨ar,hr,aDa h0 hU cs es ar.toList (by simpa only[okV] using ho) ha⟩
  | _=>simp[okV] at ho
 | .fn f cs,v,r,ho,l=>by
  cases v with
  | fn f' es =>
   simp only[okV,Bool.and_eq_true] at ho;simp only[LR] at l ⊢;obtain⟨ar,hr,ha⟩:=l;rw[Nat.eq_of_beq_eq_true ho.1];exact⟨ar,hr,aDa h0 hU cs es ar.toList ho.2 ha⟩
  | _=>simp[okV] at ho
 | .nl _ _,v,r,ho,l=>by cases v <;> simp[okV] at ho
 | .ifc t u,v,r,ho,l=>by
  cases v with
  | ifc t' u' =>
   simp only[okV,Bool.and_eq_true] at ho;simp only[LR] at l ⊢;obtain⟨x,hr,hx⟩:=l;rw[Nat.eq_of_beq_eq_true ho.1];exact⟨x,hr,aSU h0 hU u u' x ho.2 hx⟩
  | _=>simp[okV] at ho
 | .mp j ver,v,r,ho,l=>by
  cases v with
  | mp id v' =>
   simp only[okV,Bool.and_eq_true] at ho;obtain⟨⟨h2,h3⟩,h4⟩:=ho;simp only[LR] at l ⊢;obtain⟨p,pl,hr,hpl,hv,hat⟩:=l;exact⟨p,_,hr,hU.same _ _ _ _ (aL1 h4) h2 h3 pl hpl,Nat.le_refl _,fun _=>hat (hU.ver _ _ h3 pl hpl).symm⟩
  | _=>simp[okV] at ho
 | .ptr j ver off,v,r,ho,l=>by
  cases v with
  | ptr id v' off' =>
   simp only[okV,Bool.and_eq_true] at ho;obtain⟨⟨⟨h1,h2⟩,h3⟩,h4⟩:=ho;have h1:=Nat.eq_of_beq_eq_true h1;subst h1;simp only[LR] at l ⊢;obtain⟨p,pl,hr,hpl,hv,hat⟩:=l;exact⟨p,_,hr,hU.same _ _ _ _ (aL1 h4) h2 h3 pl hpl,Nat.le_refl _,fun _=>hat (hU.ver _ _ h3 pl hpl).symm⟩
  | _=>simp[okV] at ho
 | .rs j ver o n,v,r,ho,l=>by
  by_cases hv : ∃ a b c d,v = .rs a b c d
  · obtain⟨id,v',o',n',rfl⟩:=hv;simp only[okV,Bool.and_eq_true] at ho;obtain⟨⟨⟨⟨h2,h3⟩,h4⟩,h5⟩,h6⟩:=ho;simp only[LR] at l ⊢;obtain⟨ad,len,rc,pl,hr,hpl,hv,hat⟩:=l;refine⟨ad,len,rc,_,hr,hU.same _ _ _ _ (aL1 h4) h2 h3 pl hpl,Nat.le_refl _,fun _=>?_⟩;rw[aOl h0 h5,aOl h0 h6];exact hat (hU.ver _ _ h3 pl hpl).symm
  · obtain⟨rfl,h2,h3,h4,h5⟩:=aVc ho (fun a b c d he=>hv ⟨a,b,c,d,he⟩);simp only[LR] at l ⊢;subst l;obtain⟨sz,hs⟩:=hU.none j ver (aRO h3) h2;refine⟨none,0,0,_,rfl,hs,Nat.le_refl _,fun _=>.inl ⟨rfl,rfl,rfl,rfl,?_,?_⟩⟩
    · rw[aOl h0 h5]; simp[denI,denC]
    · unfold aCF at h4;split at h4
      · simp[denI]
      · simp at h4
 | .vp c i f,v,r,ho,l=>by
  cases v with
  | vp c' i' f' =>
   simp only[okV,Bool.and_eq_true] at ho;obtain⟨⟨h1,h2⟩,h3⟩:=ho;have h3:=Nat.eq_of_beq_eq_true h3;subst h3;simp only[LR] at l ⊢;rw[aN8 h0 h1,aOl h0 h2];obtain⟨b,o,g,hr,hg⟩:=l;refine⟨b,o,g,hr,fun f' cv hf=>?_⟩;obtain⟨g1,g2,g3⟩:=hg f' cv hf
   have hsub : ∀ b,Exc X σ' b→Exc X σ b:=fun b hb=>by
    rcases hb with hb | hb
    · exact .inl hb
    · exact .inr (hU.own b hb)
   exact⟨fun hx=>g1 (hsub _ hx),g2,g3.mono hsub⟩
  | _=>simp[okV] at ho
 | .rp _ _ _ _,v,r,ho,l=>by cases v <;> simp[okV] at ho
 | .g _ _,v,r,ho,l=>by cases v <;> simp[okV] at ho
theorem aDa (h0:M.n0≤ν.length) {HL SL:List Ob} (hU:Under M HL SL σ σ') : ∀ (hs vs:List LV) (rs:List Value),okVs M HL SL hs vs=true→LRs ν w X σ vs rs→LRs (nu2 M ν) w X σ' hs rs
 | [],vs,rs,ho,l=>by
  cases vs with
  | nil=>cases rs with
   | nil=>simp only[LRs]
   | cons r rs=>simp only[LRs] at l
  | cons v vs=>simp[okVs] at ho
 | h::hs,vs,rs,ho,l=>by
  cases vs with
  | nil=>simp[okVs] at ho
  | cons v vs=>cases rs with
   | nil=>simp only[LRs] at l
   | cons r rs =>
    simp only[okVs,Bool.and_eq_true] at ho;simp only[LRs] at l ⊢;exact⟨aSU h0 hU h v r ho.1 l.1,aDa h0 hU hs vs rs ho.2 l.2⟩
end
def plH (HL:List Ob) (σ:List Pl) (id:Option (Option Nat)) (h:Ob):Pl :=
 match id with
 | some (some k)=>{ (σ[k]?).getD ⟨0,none,0⟩ with ver:=h.ver }
 | some none=>⟨h.ver,none,match h.o with
  | .row _ _ sz=>sz
  | _=>0⟩
 | none=>⟨0,none,0⟩
def plsH (M:Mt) (HL:List Ob) (σ:List Pl):Nat→List Ob→List Pl
 | _,[]=>[]
 | j,h::r=>plH HL σ (idAt M.ids j) h::plsH M HL σ (j+1) r
theorem aMo (HL:List Ob) (σ:List Pl) : ∀ (j:Nat) (l:List Ob),(plsH M HL σ j l).length=l.length
 | _,[]=>rfl
 | j,h::r=>by simp[plsH,aMo HL σ (j+1) r]
theorem aOZ (HL:List Ob) (σ:List Pl) : ∀ (l:List Ob) (j i:Nat),(plsH M HL σ j l)[i]? = (getO l i).map (plH HL σ (idAt M.ids (j+i)))
 | [],j,i=>by simp[plsH,getO]
 | h::r,j,0=>by simp[plsH,getO]
 | h::r,j,i+1=>by
  simp only[plsH,List.getElem?_cons_succ,getO];rw[aOZ HL σ r (j+1) i,show j+1+i=j+(i+1) by omega]
theorem aMg {HL SL:List Ob} : ∀ (l:List Ob) (j i:Nat) (h:Ob),aQo M HL SL j l=true→getO l i=some h→okOb M HL SL (idAt M.ids (j+i)) h=true
 | [],j,i,h,_,hg=>by simp[getO] at hg
 | x::r,j,0,h,ho,hg=>by
  simp only[aQo,Bool.and_eq_true] at ho;simp only[getO,Option.some.injEq] at hg;subst hg;exact ho.1
 | x::r,j,i+1,h,ho,hg=>by
  simp only[aQo,Bool.and_eq_true] at ho
  have:=aMg r (j+1) i h ho.2 (by simpa[getO] using hg)
  rwa [show j+1+i=j+(i+1) by omega] at this
theorem aLf : ∀ (l:List (Option (Option Nat))) (i k:Nat),idAt l i=some (some k)→isIn k l=true
 | [],i,k,h=>by simp[idAt] at h
 | x::r,0,k,h=>by
  simp only[idAt] at h;subst h;simp[isIn]
 | x::r,i+1,k,h=>by
  have:=aLf r i k (by simpa[idAt] using h)
  unfold isIn;split <;> simp_all
theorem aMc : ∀ (l:List (Option (Option Nat))) (i j k:Nat),apart l=true→idAt l i=some (some k)→idAt l j=some (some k)→i=j
 | [],i,j,k,_,h,_=>by simp[idAt] at h
 | x::r,0,0,k,_,_,_=>rfl
 | x::r,0,j+1,k,ha,hi,hj=>by
  simp only[idAt] at hi;subst hi;simp only[apart,Bool.and_eq_true] at ha
  have:=aLf r j k (by simpa[idAt] using hj)
  rw[this] at ha;simp at ha
 | x::r,i+1,0,k,ha,hi,hj=>by
  simp only[idAt] at hj;subst hj;simp only[apart,Bool.and_eq_true] at ha
  have:=aLf r i k (by simpa[idAt] using hi)
  rw[this] at ha;simp at ha
 | x::r,i+1,j+1,k,ha,hi,hj=>by
  have hr:apart r=true:=by
   unfold apart at ha;split at ha <;> simp_all
  rw[aMc r i j k hr (by simpa[idAt] using hi) (by simpa[idAt] using hj)]
theorem aLV (hR:Rel w0 X ν S σ a w) (ho:okM' M H S=true) : ∃ σ',Rel w0 X (nu2 M ν) H σ' a w:=by
 simp only[okM',Bool.and_eq_true] at ho;obtain⟨⟨⟨⟨⟨⟨h1,h2⟩,h3⟩,h4⟩,h5⟩,h6⟩,h7⟩:=ho
 have h0:M.n0≤ν.length:=by rw[hR.n]; simpa using h1
 have h2:=Nat.eq_of_beq_eq_true h2;have h3:=Nat.eq_of_beq_eq_true h3
 have at' : ∀ i,(plsH M H.L σ 0 H.L)[i]? = (getO H.L i).map (plH H.L σ (idAt M.ids i)):=fun i=>by
  have:=aOZ (M:=M) H.L σ H.L 0 i
  rwa [Nat.zero_add] at this
 have okat : ∀ i h,getO H.L i=some h→okOb M H.L S.L (idAt M.ids i) h=true:=fun i h hi=>by
  have:=aMg H.L 0 i h h6 hi
  rwa [Nat.zero_add] at this
 have hown : ∀ i (p:Pl) b c,(plsH M H.L σ 0 H.L)[i]? = some p→p.at_=some (b,c)→∃ k q,idAt M.ids i=some (some k)∧σ[k]? = some q∧q.at_=some (b,c):=fun i p b c hi hp=>by
  rw[at' i] at hi
  cases hg:getO H.L i with
  | none=>rw[hg] at hi; simp at hi
  | some h =>
   rw[hg] at hi;simp only[Option.map_some,Option.some.injEq] at hi;subst hi;unfold plH at hp;split at hp
   · rename_i k hk
     cases hs:σ[k]? with
     | none=>rw[hs] at hp; simp at hp
     | some q =>
      rw[hs] at hp;exact⟨k,q,hk,hs,by simpa using hp⟩
   · simp at hp
   · simp at hp
 have hU:Under M H.L S.L σ (plsH M H.L σ 0 H.L):=by
  refine⟨fun j k v v' hj hv hv' pl hpl=>?_,fun j v hj hv=>?_,fun b hb=>?_,fun k v hv pl hpl=>?_⟩
  · rw[at' j];unfold aEF at hv;split at hv
    · rename_i ob hob;rw[hob,hj];simp only[Option.map_some,plH,hpl,Option.getD_some];rw[Nat.eq_of_beq_eq_true hv]
    · simp at hv
  · rw[at' j];unfold aEF at hv;split at hv
    · rename_i ob hob;rw[hob,hj];simp only[Option.map_some,plH];rw[Nat.eq_of_beq_eq_true hv];exact⟨_,rfl⟩
    · simp at hv
  · obtain⟨i,p,c,hi,hp⟩:=hb;obtain⟨k,q,_,hk,hq⟩:=hown i p b c hi hp;exact⟨k,q,c,hk,hq⟩
  · unfold aEF at hv;split at hv
    · rename_i ob hob;rw[(hR.L k ob pl hob hpl).1];exact Nat.eq_of_beq_eq_true hv
    · simp at hv
 have hexc : ∀ b,Exc X (plsH M H.L σ 0 H.L) b→Exc X σ b:=fun b hb=>by
  rcases hb with hb | hb
  · exact .inl hb
  · exact .inr (hU.own b hb)
 refine⟨plsH M H.L σ 0 H.L,?_⟩
 exact { defers:=hR.defers,F:=aDa h0 hU _ _ _ h5 hR.F,len:=aMo _ _ _ _
         L:=fun i ob pl hg hi=>by
          rw[at' i,hg] at hi;simp only[Option.map_some,Option.some.injEq] at hi;subst hi;have hok:=okat i ob hg;unfold okOb at hok;split at hok
          · rename_i hid;split at hok
            · rw[hid];exact⟨rfl,rfl⟩
            · simp at hok
          · rename_i hid;rw[hid];split at hok
            · rename_i c t sz hrow;simp only[Bool.and_eq_true] at hok;refine⟨rfl,?_⟩;rw[hrow];simp only[plH,hrow,OR];have hc:=aN8 h0 hok.1;simp only[denC] at hc;rw[hc]
              have:1≤sz:=by simpa using hok.2
              exact⟨trivial,this,by simp,.inl ⟨trivial,rfl⟩⟩
            · simp at hok
          · rename_i k hid;rw[hid];split at hok
            · simp at hok
            · rename_i e he;have hk:k<S.L.length:=aG4 _ _ _ he;rw[←hR.len] at hk
              have hpl:σ[k]? = some σ[k]:=by simp[hk]
              obtain⟨hv,hO⟩:=hR.L k e _ he hpl;refine⟨rfl,?_⟩;simp only[plH,hpl,Option.getD_some];split at hok
              · rename_i cs t es t' h1' h2';simp only[Bool.and_eq_true] at hok;rw[h2'] at hO;rw[h1'];obtain⟨b,c,ar,fr,g1,g2,g3,g4⟩:=hO;rw[Nat.eq_of_beq_eq_true hok.1];exact⟨b,c,ar,fr,g1,g2,g3,aDa h0 hU _ _ _ hok.2 g4⟩
              · rename_i c t sz d t' sz' h1' h2';simp only[Bool.and_eq_true] at hok;rw[h2'] at hO;rw[h1'];obtain⟨g1,g2,g3,g4⟩:=hO;have hc:=aN8 h0 hok.2;have hsz:=Nat.eq_of_beq_eq_true hok.1.2;have htt:=Nat.eq_of_beq_eq_true hok.1.1;subst hsz htt;simp only[OR];rw[hc];refine⟨g1,g2,g3,?_⟩;rcases g4 with g4 | ⟨b,cap,ar,fr,k1,k2,k3,k4,k5,k6⟩
                · exact .inl g4
                · refine .inr ⟨b,cap,ar,fr,k1,k2,k3,k4,k5,fun i el hi f cv hf=>?_⟩;obtain⟨r,hr,hcv⟩:=k6 i el hi f cv hf;exact⟨r,hr,hcv.mono hexc⟩
              · rename_i c vk d vk' h1' h2';simp only[Bool.and_eq_true] at hok;rw[h2'] at hO;rw[h1'];obtain⟨b,c0,es,clock,g1,g2,g3⟩:=hO;have hvk:=Nat.eq_of_beq_eq_true hok.1;subst hvk;simp only[OR];rw[aN8 h0 hok.2];exact⟨b,c0,es,clock,g1,g2,g3.step ⟨fun _ _ _=>rfl,fun b hb=>.inl (hexc b hb),Nat.le_refl _⟩⟩
              · rename_i s p s' p' h1' h2';simp only[Bool.and_eq_true] at hok;rw[h2'] at hO;rw[h1'];obtain⟨b,c,g1,g2,g3⟩:=hO;simp only[OR];rw[aVe h0 hok.1,aOl h0 hok.2];exact⟨b,c,g1,g2,g3⟩
              · simp at hok
         inj:=fun i j p q b c d hi hj hp hq=>by
          obtain⟨k,p',hk,hk1,hk2⟩:=hown i p b c hi hp;obtain⟨l,q',hl,hl1,hl2⟩:=hown j q b d hj hq
          have:=hR.inj k l p' q' b c d hk1 hl1 hk2 hl2
          subst this;exact aMc M.ids i j k h4 hk hl
         own:=fun b hb=>hR.own b (hU.own b hb)
         old:=hR.old,ex:=hR.ex,glo:=hR.glo,G:=aDa h0 hU _ _ _ h7 hR.G
         n:=by
          unfold nu2;simp only[List.length_append,List.length_take,List.length_map];omega }
theorem aF2 (hR:Rel w0 X ν S σ a w) {n0:Nat} {θ:List (Srt×E)} (ho:aGc n0 H S=some θ):(∃ σ',Rel w0 X (ν.take n0++θ.map (mkD ν)) H σ' a w)∧n0≤ν.length∧H.n=n0+θ.length:=by
 unfold aGc at ho
 dsimp only at ho
 generalize hM:(Mt.mk n0 _ _)=M at ho;cases hb:okM' M H S
 · rw[hb] at ho; simp at ho
 rw[hb] at ho;simp only[cond_true,Option.some.injEq] at ho
 have hn:M.n0=n0:=by rw[←hM]
 have ho:M.θ=θ:=by rw[←hM]; exact ho
 subst ho;obtain⟨σ',h⟩:=aLV hR hb;simp only[okM',Bool.and_eq_true] at hb;have h1:=hb.1.1.1.1.1.1;have h2:=Nat.eq_of_beq_eq_true hb.1.1.1.1.1.2;unfold nu2 at h;rw[hn] at h h1 h2;exact⟨⟨σ',h⟩,by rw[hR.n]; simpa using h1,h2⟩
end
end
end Go.Proofs.YtcdeimjlgpfjiaaGreatDoor
