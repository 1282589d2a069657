/- The parser's negations. Condition: what its parts come to. -/
import Derived.Test.YtcdeimjlgpfjiaaGreatDoorG16
import Derived.Laws.AppendOwn
import Derived.Laws.OwnMore
set_option linter.unusedSimpArgs false
set_option linter.unusedVariables false
namespace Go.Proofs.YtcdeimjlgpfjiaaGreatDoor
section
open Go.RowKit Go.IntWalk
attribute [local go_sem] Oper.semAt_some
section
variable {l:List Tok} {pb:Nat} {la:Option Addr} {lc:Nat}
set_option maxHeartbeats 4000000 in
set_option maxRecDepth 100000 in
theorem aN4 {rn rc:Nat→PR Xp} (hn:aAY l pb la lc 92 rn) (hc:aAY l pb la lc 131 rc) :
 aAY l pb la lc 92 (fun i=>if isP l i 2 [110,111,116]=true then (rn (i+1)).bind fun e j=>.ok (Xp.mk 3 [110,111,116] nul [] [] 0 false false [e]) j else rc i):=by
 intro W i hP hR
 dsimp only at hR ⊢
 generalize hRR:(if isP l i 2 [110,111,116]=true then (rn (i+1)).bind fun e j=>.ok (Xp.mk 3 [110,111,116] nul [] [] 0 false false [e]) j else rc i)=R at hR ⊢
 have HRR:=Lib.hid hRR;clear hRR;obtain⟨W1,hW1⟩ : ∃ W1,W1=W.alloc (.cells z11 26):=⟨_,rfl⟩
 have hK1:KeepP pb W W1:=by rw[hW1]; exact (KeepP.refl pb W).alloc _
 have hP1:PW l pb la lc W1 i:=by rw[hW1]; exact hP.alloc _
 have hz1:W1.heap.size=W.heap.size+1:=by rw[hW1]; simp
 have hpl:=hP.lt
 have hb1:W1.heap[W.heap.size]? = some (.cells z11 26 (0,0)):=by rw[hW1]; exact aAl _ _
 go_enter Tryz.func92,Tryz.ntmps92
 go_wp2_with fail;rw[←hW1];clear hW1;have hT:=aA4 hP1 [110,111,116];obtain⟨b,hb⟩ : ∃ b,b=isP l i 2 [110,111,116]:=⟨_,rfl⟩;rw[←hb] at hT;have HB:=Lib.hid hb;clear hb;refine Calls.mono hT ?_;rintro e w2 ⟨rfl,hk2,hP2⟩;have hb2:=aAd hk2 hb1 (by omega);have hz2:=hk2.size;have hK2:=hK1.trans hk2
 cases b with
 | true =>
  have hP2:PW l pb la lc w2 (i+1):=hP2
  have hRe:R=(rn (i+1)).bind fun e j=>.ok (Xp.mk 3 [110,111,116] nul [] [] 0 false false [e]) j:=by rw[←HRR.out,←HB.out]; rfl
  have HRe:=Lib.hid hRe;clear hRe;have hC:=hn w2 (i+1) hP2;go_wp2_with fail
  cases hr:rn (i+1) with
  | out=>exact absurd (by rw[HRe.out,hr]; rfl) hR
  | stop j =>
   rw[hr] at hC;refine Calls.mono (hC (fun h=>by cases h)) ?_;rintro e w3 ⟨rfl,hk⟩;refine⟨rfl,?_⟩;rw[HRe.out,hr];exact⟨rfl,hK2.trans hk⟩
  | ok e j =>
   rw[hr] at hC;refine Calls.mono (hC (fun h=>by cases h)) ?_;rintro e' w3 ⟨⟨v,rfl,hx⟩,hk,hP3⟩;obtain⟨k,op,⟨v0,v1,v2⟩,tb,nm,sl,nt,ds,args⟩:=e;obtain⟨sa,sc,rfl,hs⟩:=hx.form;have hb3:=aAd hk hb2 (by omega);have hz3:=hk.size;obtain⟨W4,hW4⟩ : ∃ W4,W4=w3.alloc (.cells (xA k op v0 v1 v2 tb nm sl nt ds (.slice sa args.length sc)) 26):=⟨_,rfl⟩
   have hk4:KeepP pb w3 W4:=by rw[hW4]; exact (KeepP.refl pb w3).alloc _
   have hP4:PW l pb la lc W4 j:=by rw[hW4]; exact hP3.alloc _
   have hb4:=aAd hk4 hb3 (by omega);have hz4:=hk4.size
   have hn4:W4.heap[w3.heap.size]? = some (.cells (xA k op v0 v1 v2 tb nm sl nt ds (.slice sa args.length sc)) 26 (0,0)):=by rw[hW4]; exact aAl _ _
   have hcv:CVR W4 (fun b=>b<w2.heap.size) (.vs (xcs [.mk k op (v0,v1,v2) tb nm sl nt ds args])) (.slice (some ⟨w3.heap.size,0,none⟩) 1 1) :=
    aBp (l:=[.mk k op (v0,v1,v2) tb nm sl nt ds args]) hn4 (by omega) (by
     rw[List.flatMap_cons,List.flatMap_nil,List.append_nil]
     have:=aAy (X':=fun b=>b<w2.heap.size) ⟨fun b hn hlt=>hk4.heap b hlt (by omega),fun b hb=>.inl hb,hz4⟩ hx.cells
     exact this)
   have hg:GX (fun b=>b≤W.heap.size) (.mk 3 [110,111,116] (0,0,[]) [] [] 0 false false [.mk k op (v0,v1,v2) tb nm sl nt ds args]) (.agg (xA 3 [110,111,116] 0 0 [] [] [] 0 false false (.slice (some ⟨w3.heap.size,0,none⟩) 1 1))) W4:=(GX.mk' hcv).mono (fun b hb=>by omega);have hK4:=(hK2.trans hk).trans hk4;subst hW4;obtain⟨p0,p1,p2,p3,p4,p5,p6,p7,p8,p9,p10,pf⟩:=aAf hb4;go_wp2_with fail
   exact aAF hb4 (fun _ y0 y1 y2 y3 y4 y5 y6 y7 y8 y9 y10=>by simp[results,Tryz.results92,go_sem,y0,y1,y2,y3,y4,y5,y6,y7,y8,y9,y10]) rfl hP (hK4) hP4 (hg) (by
    rw[HRe.out,hr]
    try rfl)
 | false =>
  have hP2:PW l pb la lc w2 i:=hP2
  have hRe:R=rc i:=by rw[←HRR.out,←HB.out]; rfl
  have HRe:=Lib.hid hRe;clear hRe;have hC:=hc w2 i hP2;go_wp2_with fail
  cases hr:rc i with
  | out=>exact absurd (by rw[HRe.out,hr]) hR
  | stop j =>
   rw[hr] at hC;refine Calls.mono (hC (fun h=>by cases h)) ?_;rintro e w3 ⟨rfl,hk⟩;refine⟨rfl,?_⟩;rw[HRe.out,hr];exact⟨rfl,hK2.trans hk⟩
  | ok e j =>
   rw[hr] at hC;refine Calls.mono (hC (fun h=>by cases h)) ?_;rintro e' w3 ⟨⟨v,rfl,hx⟩,hk,hP3⟩;obtain⟨k,op,⟨v0,v1,v2⟩,tb,nm,sl,nt,ds,args⟩:=e;obtain⟨sa,sc,rfl,hs⟩:=hx.form;have hb3:=aAd hk hb2 (by omega);have hz3:=hk.size;have hx2:=hx.mono (X':=fun b=>b≤W.heap.size) (fun b hb=>by omega);obtain⟨p0,p1,p2,p3,p4,p5,p6,p7,p8,p9,p10,pf⟩:=aAf hb3;go_wp2_with fail
   exact aAF hb3 (fun _ y0 y1 y2 y3 y4 y5 y6 y7 y8 y9 y10=>by simp[results,Tryz.results92,go_sem,y0,y1,y2,y3,y4,y5,y6,y7,y8,y9,y10]) rfl hP (hK2.trans hk) hP3 (hx2) (by
    rw[HRe.out,hr]
    try rfl)
end
end
section
open Go.RowKit Go.IntWalk
attribute [local go_sem] Oper.semAt_some
section
variable {P:Program}
theorem aDr (w:World) (base:Nat) (t ty e:TypeId) (i:TypeInfo) (z:Value) (size bytes:Nat) (ht:P.underlying t=some (.slice e)) (hi:P.info? e=some i) (hz:i.zero=some z)
 (hsize:i.size=size) (hby:i.bytes=bytes) (hzs:z.cells.size=size) (hsz:0<size)
 (v:Value) (n:Nat) (xs:List Value) (hown:w.ownsRow base e size v n xs)
 (a:Addr) (m c:Nat) (news:List Value) (hl:news.length=m*size) (hnews : ∀ j u,news[j]? = some u→w.cell? (a.add j)=some u) (h1 : ∀ u∈news,u.oneCell'=true)
 (h63:n+m≤maxLen) (hbytes:(n+m)*bytes≤140737488355328) (hbase:base≤w.heap.size) :
 ∃ v' w',(Builtin.append_ #[t,t] ty #[v,.slice (some a) m c]).run P w = .ok v' w'∧w'.ownsRow base e size v' (n+m) (xs++news)∧w.grownBy w' v.ownBlock ∧
  ∀ g,v'.ownBlock=some g→v.ownBlock=some g∨w.heap.size≤g:=by
 have own:=run_append_own (P:=P) w base t ty e i z size bytes ht hi hz hsize hby hzs hsz v n xs hown a m c news hl hnews h1 h63 hbytes hbase;obtain⟨v',w',hr,h2,h3,h4⟩:=own;refine⟨v',w',hr,h2,h3,?_⟩;rcases hown.2 with ⟨rfl,rfl⟩ | ⟨g,cap,cur,rfl,hbg,hg,hnc,hcm,hcs,htake⟩
 · have hx:xs=[]:=List.eq_nil_of_length_eq_zero (by simpa using hown.1);subst hx;obtain⟨v2,w2,hr2,k2,_,_⟩:=run_append_own (P:=P) w w.heap.size t ty e i z size bytes ht hi hz hsize hby hzs hsz _ 0 [] (World.ownsRow_nil w _ e size) a m c news hl hnews h1 h63 hbytes (Nat.le_refl _);rw[hr] at hr2;injection hr2 with e1 e2;subst e1;exact fun g hg=>.inr (k2.lt g hg).1
 · by_cases hroom:n+m≤cap
   · obtain⟨w2,hr2,_,_⟩:=run_append_fits (P:=P) w base t ty e i size ht hi hsize g n cap xs hown a m c news hl hnews h1 hroom;rw[hr] at hr2;injection hr2 with e1 e2;subst e1;exact fun g' hg'=>.inl hg'
   · subst hsize
     subst hby
     have holds : ∀ j u,xs[j]? = some u→w.cell? ((⟨g,0,none⟩:Addr).add j)=some u:=hown.cells (g:=g) rfl
     have hsmall:n+m≤9223372036854775807:=by simp only[maxLen] at h63; omega
     have hr2:=run_append_grow (P:=P) w t ty e i z ht hi hz ⟨g,0,none⟩ n cap xs hown.1 holds a m c news hl hnews (by omega) (by omega) (growslice_fits (by omega) hbytes);rw[hr] at hr2;injection hr2 with e1 e2;subst e1;intro g' hg';simp only[Value.ownBlock,Option.some.injEq] at hg';exact .inr (by omega)
theorem aEP (w:World) {ops:Array Oper} {rest:List Oper} {o:Oper} {a:Act} {Q:Exit→Act→World→Prop}
 (hg:o.guard=none) (s x:Operand) (t:TypeId) (hop:o.op=Op.call { callee:=Callee.builtin Builtin.append,args:=#[s,x],argTypes:=#[t,t] })
 (base:Nat) (e:TypeId) (i:TypeInfo) (z:Value) (size bytes:Nat) (h1:P.underlying t=some (.slice e)) (h2:P.info? e=some i) (h3:i.zero=some z) (h4:i.size=size) (h5:i.bytes=bytes) (h6:z.cells.size=size) (h7:0<size)
 (v:Value) (k:Nat) (xs:List Value) (hs:a.eval s=v) (hown:w.ownsRow base e size v k xs) (ad:Addr) (m c:Nat) (news:List Value) (hx:a.eval x = .slice (some ad) m c) (hn:news.length=m*size)
 (hc : ∀ j u,news[j]? = some u→w.cell? (ad.add j)=some u) (h1c : ∀ u∈news,u.oneCell'=true) (b1:k+m≤maxLen) (b2:(k+m)*bytes≤140737488355328) (b3:base≤w.heap.size)
 (hK : ∀ v' w',w'.ownsRow base e size v' (k+m) (xs++news)→w.grownBy w' v.ownBlock→(∀ g,v'.ownBlock=some g→v.ownBlock=some g∨w.heap.size≤g)→wpList P ops Q rest (a.put o.dst v') w') :
 wpList P ops Q (o::rest) a w:=by
 refine wpList_plain hg fun K hK'=>?_;obtain⟨v',w',hrun,r1,r2,r3⟩:=aDr (P:=P) w base t o.type e i z size bytes h1 h2 h3 h4 h5 h6 h7 v k xs hown ad m c news hn hc h1c b1 b2 b3;unfold Oper.wp execOp;simp only[hop,resolve,invoke,builtin,Sem.run_bind,Sem.run_pure,Result.andThen_ok,List.map_toArray,List.map_cons,List.map_nil,hs,hx,hrun];exact hK' _ _ (hK v' w' r1 r2 r3)
end
theorem aVu:(Tryz.prog.info? 26).map (fun i=>(i.zero,i.size,i.bytes))=some (some (.agg z11),11,128):=by kernel_rfl
structure RowX (base:Nat) (L:List Xp) (v:Value) (w:World):Prop where
 own : ∃ xs,w.ownsRow base 26 11 v L.length xs∧CVRs w (fun b=>b<base∨v.ownBlock=some b) (L.flatMap Xp.cells) xs
theorem RowX.form {base:Nat} {L:List Xp} {v:Value} {w:World} (h:RowX base L v w) : ∃ a c,v = .slice a L.length c:=by
 obtain⟨xs,⟨_,⟨rfl,h0⟩ | ⟨g,cap,cur,rfl,_⟩⟩,_⟩:=h.own
 · exact⟨none,0,by rw[h0]⟩
 · exact⟨_,_,rfl⟩
theorem aUQ {w:World} {X:Nat→Prop} {l:List Xp} {b c:Nat} {a:Array Value} {t:TypeId} {fr:Nat×Nat} (h:w.heap[b]? = some (.cells a t fr)) (hX : ¬ X b) (hlc:l.length≤c) {xs:List Value} (ha:a.toList.take (l.length*11)=xs) (hc:CVRs w X (l.flatMap Xp.cells) xs):CVR w X (.vs (xcs l)) (.slice (some ⟨b,0,none⟩) l.length c):=by
 have hl:=aEc l
 have e:(Value.slice (some ⟨b,0,none⟩) l.length c) = .slice (some ⟨b,0,none⟩) (xcs l).length c:=by rw[hl]
 rw[e];refine .vs _ b 0 11 c (fun i f=>a.getD (i*11+f) undef) (fun el hel=>?_) (by omega) (fun i el hi f cv hf=>?_) (fun i el hi f cv hf=>?_)
 · have : ∀ (l:List Xp),∀ el∈xcs l,el.length=11:=fun l=>by
    induction l with
    | nil=>simp[xcs]
    | cons e l ih =>
     intro el h;simp only[xcs,List.mem_cons] at h;rcases h with rfl | h
     · exact aBG e
     · exact ih el h
   exact this l el hel
 all_goals
  obtain⟨h11,h2⟩:=aET l i el f cv hi hf;obtain⟨r,hr,hv⟩:=aLQ hc _ cv h2
  have hr':a[i*11+f]? = some r:=by
   rw[←ha,List.getElem?_take] at hr;split at hr
   · simpa using hr
   · cases hr
  have hg:a.getD (i*11+f) undef=r:=by rw[Array.getD_eq_getD_getElem?,hr']; rfl
  rw[hg]
 · refine⟨hX,?_⟩;simp[World.cell?,h,hr']
 · exact hv
theorem RowX.read {base:Nat} {L:List Xp} {v:Value} {w:World} (h:RowX base L v w):CVR w (fun b=>b<base) (.vs (xcs L)) v:=by
 obtain⟨xs,⟨hl,⟨rfl,h0⟩ | ⟨g,cap,cur,rfl,hb,hg,hcap,hmax,hsz,htake⟩⟩,hc⟩:=h.own
 · have:L=[]:=List.length_eq_zero_iff.1 h0
   subst this;exact .nil _
 · exact aUQ hg (by omega) hcap htake (hc.mono fun b hb=>.inl hb)
theorem RowX.keep {pb base:Nat} {L:List Xp} {v:Value} {w w':World} (h:RowX base L v w) (hK:KeepP pb w w') (hp:pb<base):RowX base L v w':=by
 obtain⟨xs,⟨hl,ho⟩,hc⟩:=h.own;refine⟨xs,⟨hl,ho.imp id ?_⟩,aAy ⟨fun b hn hlt=>hK.heap b hlt (fun e=>hn (.inl (by omega))),fun b hb=>.inl hb,hK.size⟩ hc⟩;rintro⟨g,cap,cur,e,hb,hg,r⟩;exact⟨g,cap,cur,e,hb,(hK.heap g (Array.getElem?_eq_some_iff.1 hg).1 (by omega)).trans hg,r⟩
theorem RowX.grow {base n0:Nat} {L:List Xp} {v v':Value} {w w':World} {e:Xp} {a:Array Value} {xs:List Value} (ho:w.ownsRow base 26 11 v L.length xs) (hc:CVRs w (fun b=>b<base∨v.ownBlock=some b) (L.flatMap Xp.cells) xs)
 (hx:GX (fun b=>b<n0) e (.agg a) w) (hn0:base≤n0) (hv : ∀ g,v.ownBlock=some g→g<n0) (h1:w'.ownsRow base 26 11 v' (L.length+1) (xs++a.toList)) (h2:w.grownBy w' v.ownBlock) (h3 : ∀ g,v'.ownBlock=some g→v.ownBlock=some g∨w.heap.size≤g) :
 RowX base (L++[e]) v' w':=by
 have hX : ∀ b,(b<base∨v'.ownBlock=some b)→(b<base∨v.ownBlock=some b)∨w.heap.size≤b:=fun b hb=>by
  rcases hb with hb | hb
  · exact .inl (.inl hb)
  · rcases h3 b hb with h | h
    · exact .inl (.inr h)
    · exact .inr h
 have st:Stays (fun b=>b<base∨v.ownBlock=some b) (fun b=>b<base∨v'.ownBlock=some b) w w':=⟨fun b hn hlt=>h2.block b hlt (fun e=>hn (.inr e.symm)),hX,h2.size⟩;refine⟨xs++a.toList,by rw[List.length_append]; exact h1,?_⟩;rw[List.flatMap_append,List.flatMap_cons,List.flatMap_nil,List.append_nil]
 have hx2:GX (fun b=>b<base∨v.ownBlock=some b) e (.agg a) w:=hx.mono (fun b hb=>by
  rcases hb with hb | hb
  · omega
  · exact hv b hb)
 exact (aAy st hc).app (aAy st hx2.cells)
section
variable {l:List Tok} {pb:Nat} {la:Option Addr} {lc:Nat}
def aUP (l:List Tok) (pb:Nat) (la:Option Addr) (lc:Nat) (W:World) (ex:Nat→PR Xp) (R:PR (List Xp)) (v:Value) (w:World):Prop :=
 ∃ (n:Nat) (L:List Xp) (j:Nat),aE9 l ex n L j=R∧PW l pb la lc w j∧KeepP pb W w∧RowX W.heap.size L v w∧L.length≤j
set_option maxHeartbeats 4000000 in
set_option maxRecDepth 100000 in
theorem aEw {ex:Nat→PR Xp} (hex:aAY l pb la lc 37 ex) (hgt : ∀ i e j,ex i = .ok e j→i<j) (W:World) (i:Nat) (hP:PW l pb la lc W i) (hR:aCw l ex i≠.out) :
 Calls Tryz.prog 142 #[.pointer (some ⟨pb,0,none⟩)] W (aDJ l pb la lc W (fun L v w'=>CVR w' (fun b=>b<W.heap.size) (.vs (xcs L)) v) (aCw l ex i)):=by
 have hC:=hex W i hP;have hpl:=hP.lt;have hbig:=hP.big;obtain⟨i0,hi,hi0,hi1,hi2⟩:=info_parts aVu;have t24:=Tryz.underlying24;generalize hRR:aCw l ex i=R at hR ⊢;have HRR:=Lib.hid hRR;clear hRR
 have hRe:R=(ex i).bind fun e j=>aE9 l ex (l.length+1) [e] j:=by rw[←HRR.out]; rfl
 have HRe:=Lib.hid hRe;clear hRe
 go_enter Tryz.func142,Tryz.ntmps142
 go_wp2_with fail
 cases hr:ex i with
 | out=>exact absurd (by rw[HRe.out,hr]; rfl) hR
 | stop j =>
  rw[hr] at hC;refine Calls.mono (hC (fun h=>by cases h)) ?_;rintro e w2 ⟨rfl,hk⟩;refine⟨rfl,?_⟩;rw[HRe.out,hr];exact⟨rfl,hk⟩
 | ok e j =>
  rw[hr] at hC;refine Calls.mono (hC (fun h=>by cases h)) ?_;rintro e' w2 ⟨⟨v,rfl,hx⟩,hk,hP2⟩;obtain⟨k,op,⟨v0,v1,v2⟩,tb,nm,sl,nt,ds,args⟩:=e;obtain⟨sa,sc,rfl,hs⟩:=hx.form;have hij:=hgt _ _ _ hr;have hk2:=hk.size
  have hLI:aUP l pb la lc W ex R (.slice (some ⟨w2.heap.size,0,none⟩) 1 1) (w2.alloc (.cells (xA k op v0 v1 v2 tb nm sl nt ds (.slice sa args.length sc)) 26)):=by
   refine⟨l.length+1,[.mk k op (v0,v1,v2) tb nm sl nt ds args],j,by rw[HRe.out,hr]; rfl,hP2.alloc _,hk.alloc _,⟨(xA k op v0 v1 v2 tb nm sl nt ds (.slice sa args.length sc)).toList,⟨rfl,.inr ⟨w2.heap.size,1,_,rfl,by omega,aAl _ _,Nat.le_refl _,by decide,rfl,rfl⟩⟩,?_⟩,by simp only[List.length_cons,List.length_nil]; omega⟩;rw[List.flatMap_cons,List.flatMap_nil,List.append_nil]
   exact aAy ⟨fun b hn hlt=>Below.heap_alloc _ _ _ hlt,fun b hb=>by
    rcases hb with hb | hb
    · exact .inl hb
    · simp only[Value.ownBlock,Option.some.injEq] at hb
      exact .inr (by omega),by simp⟩ hx.cells
  clear hC hx hs hk hP2 hr;go_wp2_with fail
  go_loopw [3] (fun x wr=>aUP l pb la lc W ex R x wr) (fun _ wr=>l.length - atOf pb wr)
  case atStart=>exact hLI
  case round =>
   clear hLI;obtain⟨n,L,j,hch,hPj,hKj,hrow,hLj⟩:=hrel;obtain⟨ra,rc,rfl⟩:=hrow.form;have hle:=hPj.le
   cases n with
   | zero=>exact absurd hch.symm hR
   | succ n =>
    unfold aE9 at hch;have hM:=aCk hPj [44];obtain⟨b,hb⟩ : ∃ b,b=isP l j 4 [44]:=⟨_,rfl⟩;rw[←hb] at hM hch;have hjl:b=true→j<l.length:=fun h=>aA3 (by rw[←hb]; exact h);clear hb;go_wp2_with fail;refine Calls.mono hM ?_;rintro e' w3 ⟨rfl,h3,hP3⟩;have hrow3:=hrow.keep h3 hpl;have hK3:=hKj.trans h3
    cases b with
    | true =>
     have hjl:=hjl rfl;have hP3:PW l pb la lc w3 (j+1):=hP3;have hcp:=hex w3 (j+1) hP3;have hch:(ex (j+1)).bind (fun e j=>aE9 l ex n (L++[e]) j)=R:=hch;go_wp2_with fail
     cases hr:ex (j+1) with
     | out=>exact absurd (by rw[←hch,hr]; rfl) hR
     | stop m =>
      rw[hr] at hcp;refine Calls.mono (hcp (fun h=>by cases h)) ?_;rintro e w4 ⟨rfl,hk4⟩;refine⟨rfl,?_⟩;rw[←hch,hr];exact⟨rfl,hK3.trans hk4⟩
     | ok e m =>
      rw[hr] at hcp;refine Calls.mono (hcp (fun h=>by cases h)) ?_;rintro e' w4 ⟨⟨v,rfl,hx⟩,hk4,hP4⟩;obtain⟨k,op,⟨v0,v1,v2⟩,tb,nm,sl,nt,ds,args⟩:=e;obtain⟨sa,sc,rfl,hs⟩:=hx.form;have hrow4:=hrow3.keep hk4 hpl;have hjm:=hgt _ _ _ hr;have hk3s:=hK3.size;have hk4s:=hk4.size;have hm4:=hP4.le;obtain⟨W5,hW5⟩ : ∃ W5,W5=w4.alloc (.cells (xA k op v0 v1 v2 tb nm sl nt ds (.slice sa args.length sc)) 26):=⟨_,rfl⟩
      have hk5:KeepP pb w4 W5:=by rw[hW5]; exact (KeepP.refl pb w4).alloc _
      have hn5:W5.heap[w4.heap.size]? = some (.cells (xA k op v0 v1 v2 tb nm sl nt ds (.slice sa args.length sc)) 26 (0,0)):=by rw[hW5]; exact aAl _ _
      have hz5:W5.heap.size=w4.heap.size+1:=by rw[hW5]; simp
      have hrow5:=hrow4.keep hk5 hpl;obtain⟨xs,ho5,hc5⟩:=hrow5.own;have hx5:GX (fun b=>b<w3.heap.size) (.mk k op (v0,v1,v2) tb nm sl nt ds args) (.agg (xA k op v0 v1 v2 tb nm sl nt ds (.slice sa args.length sc))) W5:=hx.keep hk5 (by have:=hP3.lt; omega) (fun b hb=>.inl hb)
      have hP5:PW l pb la lc W5 m:=by rw[hW5]; exact hP4.alloc _
      have hob : ∀ g,(Value.slice ra L.length rc).ownBlock=some g→g<w3.heap.size:=fun g hg=>by
       obtain⟨xs3,ho3,_⟩:=hrow3.own;exact (ho3.lt g hg).2
      have HW5:=Lib.hid hW5;clear hW5 hx hs hk5 hrow5 hrow4 hrow3 hrow hcp hM
      go_wp2_with (at_builtin; rw[←HW5.out]; refine aEP W5 rfl _ _ 24 rfl W.heap.size 26 i0 (.agg z11) 11 128 t24 hi hi0 hi1 hi2 rfl (by decide) _ L.length xs rfl ho5 ⟨w4.heap.size,0,none⟩ 1 1 (xA k op v0 v1 v2 tb nm sl nt ds (.slice sa args.length sc)).toList rfl rfl ?qc1 ?qc2 ?qc3 ?qc4 ?qc5 ?_)
      case qc1 =>
       intro q u hq
       have hq':(xA k op v0 v1 v2 tb nm sl nt ds (.slice sa args.length sc))[q]? = some u:=by rw[←Array.getElem?_toList]; exact hq
       simp only[World.cell?,hn5];exact hq'
      case qc2 =>
       simp[Value.oneCell']
      case qc3 =>
       have hmax:maxLen=9223372036854775807:=by decide +kernel
       omega
      case qc4=>omega
      case qc5=>omega
      intro v' w6 ho6 hgr hwh;have hW5:=HW5.out;have hrow6:=RowX.grow ho5 hc5 hx5 (by omega) hob ho6 hgr (fun g hg=>(hwh g hg).imp id (fun h=>by omega))
      have hown5 : ∀ b,b<W.heap.size→some b≠(Value.slice ra L.length rc).ownBlock:=fun b hb e=>by
       have:=(ho5.lt b e.symm).1
       omega
      have hK5:KeepP pb W W5:=by rw[hW5]; exact (hK3.trans hk4).alloc _
      have hK6:KeepP pb W w6:=⟨hgr.os.trans hK5.os,hgr.tape.trans hK5.tape,hgr.output.trans hK5.output,Nat.le_trans hK5.size hgr.size,fun b h1 h2=>(hgr.block b (by omega) (hown5 b h1)).trans (hK5.heap b h1 h2)⟩;have hP6:PW l pb la lc w6 m:=hP.kept hK6 ((hgr.block pb (by omega) (hown5 pb hpl)).trans hP5.cell) hm4;obtain⟨ra',rc',rfl⟩:=hrow6.form;clear hW5 ho6 hgr hwh ho5 hc5 hx5 hn5 hown5 hob;go_wp2_with fail;refine⟨⟨n,_,m,by rw[←hch,hr]; rfl,hP6,hK6,hrow6,by rw[List.length_append]; simp only[List.length_cons,List.length_nil]; omega⟩,?_⟩;rw[hP6.atOf,hPj.atOf];omega
    | false =>
     have hP3:PW l pb la lc w3 j:=hP3;have hch:(aAB l 4 [41] j).bind (fun _ j=>.ok L j)=R:=hch;have hQ:=aAK hP3 4 [41];go_wp2_with fail
     cases hm:aAB l 4 [41] j with
     | out =>
      unfold aAB at hm;split at hm <;> cases hm
     | stop q =>
      rw[hm] at hQ;refine Calls.mono hQ ?_;rintro e w4 ⟨rfl,hk4⟩;refine⟨rfl,?_⟩;rw[←hch,hm];exact⟨rfl,hK3.trans hk4⟩
     | ok u q =>
      rw[hm] at hQ;refine Calls.mono hQ ?_;rintro e w4 ⟨⟨v,rfl,hv⟩,hk4,hP4⟩;subst hv;go_wp2_with fail
      go_ret
      rw[←hch,hm];exact⟨⟨_,rfl,(hrow3.keep hk4 hpl).read⟩,hK3.trans hk4,hP4⟩
end
end
end Go.Proofs.YtcdeimjlgpfjiaaGreatDoor
