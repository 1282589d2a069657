/- The parser's signed expressions. Condition: what its parts come to. -/
import Derived.Test.YtcdeimjlgpfjiaaGreatDoorG23
import Derived.Deep.CutRange
set_option linter.unusedSimpArgs false
set_option linter.unusedVariables false
namespace Go.Proofs.YtcdeimjlgpfjiaaGreatDoor
section
open Go.RowKit Go.IntWalk
attribute [local go_sem] Oper.semAt_some
section
variable {l:List Tok} {pb:Nat} {la:Option Addr} {lc:Nat}
def aNi (l:List Tok) (pb:Nat) (la:Option Addr) (lc:Nat) (W:World) (m:Nat) (t:Tok) (r:Nat) (d e:Bool) (w:World):Prop :=
 PW l pb la lc w m∧KeepP pb W w∧w.heap[W.heap.size]? = some (.cells z11 26 (0,0))∧(d=true→W.heap.size<r∧w.heap[r]? = some (.cells (match e with | false=>#[.int .i64 0,.int .i64 0,.string ⟨#[]⟩] | true=>#[.int .i64 t.vl.1,.int .i64 t.vl.2.1,.string (bs t.vl.2.2)]) 23 (0,0)))
theorem aMu {l:List Tok} {i:Nat} {k:Int} : ∀ {ops:List (List UInt8)} {op:List UInt8},oneP l k i ops=some op→op∈ops
 | [],op,h=>by cases h
 | s::r,op,h=>by
  unfold oneP at h;split at h
  · injection h with h; subst h; exact List.mem_cons_self ..
  · exact List.mem_cons_of_mem _ (aMu h)
set_option maxHeartbeats 16000000 in
set_option maxRecDepth 100000 in
theorem aK9 {sg pl:Nat→PR Xp} (hsg:aAY l pb la lc 149 sg) (hpn:aAY l pb la lc 150 pl):aAY l pb la lc 149 (aHL l sg pl):=by
 intro W i hP hR;generalize hRR:aHL l sg pl i=R at hR ⊢;unfold aHL at hRR;obtain⟨W2,hW2⟩ : ∃ W2,W2=(W.alloc (.cells z11 26)).alloc (.cells #[.string ⟨#[45]⟩,.string ⟨#[43]⟩] 9):=⟨_,rfl⟩
 have hK2:KeepP pb W W2:=by rw[hW2]; exact ((KeepP.refl pb W).alloc _).alloc _
 have hP2:PW l pb la lc W2 i:=by rw[hW2]; exact (hP.alloc _).alloc _
 have hz2:W2.heap.size=W.heap.size+2:=by rw[hW2]; simp
 have hpl:=hP.lt
 have hb2:W2.heap[W.heap.size]? = some (.cells z11 26 (0,0)):=by rw[hW2]; exact (Below.heap_alloc _ _ _ (by simp)).trans (aAl _ _)
 have h3:W2.heap[W.heap.size+1]? = some (.cells #[.string ⟨#[45]⟩,.string ⟨#[43]⟩] 9 (0,0)):=by
  have:=aAl (W.alloc (.cells z11 26)) (.cells #[.string ⟨#[45]⟩,.string ⟨#[43]⟩] 9)
  rw[World.size_alloc] at this;rw[hW2]; exact this
 have ho:CVR W2 (fun b=>b=pb) (.vs (oc [[45],[43]])) (.slice (some ⟨W.heap.size+1,0,none⟩) 2 2):=aEB (ops:=[[45],[43]]) h3 (by omega) rfl;have hO:=aHa hP2 4 [[45],[43]] _ _ ho (by decide)
 go_enter Tryz.func149,Tryz.ntmps149
 go_wp2_with fail;rw[←hW2];clear hW2 h3 ho
 cases ho1:oneP l 4 i [[45],[43]] with
 | none =>
  rw[ho1] at hRR hO;simp only at hRR;simp only[Option.getD_none,Option.isSome_none] at hO;refine Calls.mono hO ?_;rintro e w3 ⟨rfl,hk3,hP3⟩;have hP3:PW l pb la lc w3 i:=hP3;have hb3:=aAd hk3 hb2 (by omega);have hz3:=hk3.size;have hK3:=hK2.trans hk3;have hRe:R=pl i:=hRR.symm;have HRe:=Lib.hid hRe;clear hRe hRR;have hC:=hpn w3 i hP3;go_wp2_with fail
  cases hr:pl i with
  | out=>exact absurd (by rw[HRe.out,hr]) hR
  | stop j =>
   rw[hr] at hC;refine Calls.mono (hC (fun h=>by cases h)) ?_;rintro e w9 ⟨rfl,hk⟩;refine⟨rfl,?_⟩;rw[HRe.out,hr];exact⟨rfl,(hK3).trans hk⟩
  | ok e j =>
   rw[hr] at hC;refine Calls.mono (hC (fun h=>by cases h)) ?_;rintro e' w9 ⟨⟨v,rfl,hx⟩,hk,hP9⟩;obtain⟨k,op,⟨v0,v1,v2⟩,tb,nm,sl,nt,ds,args⟩:=e;obtain⟨sa,sc,rfl,hs⟩:=hx.form;have hb9:=aAd hk hb3 (by omega);have hz9:=hk.size;have hx2:=hx.mono (X':=fun b=>b≤W.heap.size) (fun b hb=>by omega);obtain⟨p0,p1,p2,p3,p4,p5,p6,p7,p8,p9,p10,pf⟩:=aAf hb9;go_wp2_with fail
   exact aAF hb9 (fun _ y0 y1 y2 y3 y4 y5 y6 y7 y8 y9 y10=>by simp[results,Tryz.results149,go_sem,y0,y1,y2,y3,y4,y5,y6,y7,y8,y9,y10]) rfl hP ((hK3).trans hk) hP9 (hx2) (by
    rw[HRe.out,hr]
    try rfl)
 | some op2 =>
  have hmem:=aMu ho1;have hil:=aDm ho1;rw[ho1] at hRR hO;simp only at hRR;simp only[Option.getD_some,Option.isSome_some] at hO;refine Calls.mono hO ?_;rintro e w3 ⟨rfl,hk3,hP3⟩;have hP3:PW l pb la lc w3 (i+1):=hP3;have hb3:=aAd hk3 hb2 (by omega);have hz3:=hk3.size;have hK3:=hK2.trans hk3;obtain⟨m,hm⟩ : ∃ m,m=i+1:=⟨_,rfl⟩;rw[show i+2=(i+1)+1 from rfl,←hm] at hRR;rw[←hm] at hP3;have HRR:=Lib.hid hRR;clear hRR hm ho1;have c0:=hP3.c0;have c1:=hP3.c1;have hle:=hP3.le;have hbig:=hP3.big;by_cases hop:op2=[45]
  · subst hop;by_cases hlt:m<l.length
    · have hlti:(m:Int)<(l.length:Int):=by omega
      have hltn : ¬ (l.length:Int)≤(m:Int):=by omega
      obtain⟨B,O,rfl,hnb,hbl,hcap,t0,t1,t2,t3,t4,_⟩:=hP.tok hlt;have tt0:=(hK3.cell (p:=⟨B,O+m*6,none⟩) hbl hnb).trans t0;have tt2:=(hK3.cell (p:=⟨B,O+m*6+2,none⟩) hbl hnb).trans t2
      have e3:aBg l 3 m=((l.getD m default).kd==3):=by unfold aBg; simp[hlt]
      obtain⟨t,ht⟩ : ∃ t,t=l.getD m default:=⟨_,rfl⟩;rw[←ht] at t0 t1 t2 t3 t4 tt0 tt2 e3;have HR9:=HRR.out;rw[←ht] at HR9;have HRR:=Lib.hid HR9;clear HR9;clear ht;by_cases hkd:aBg l 3 m=true
      · have g3:(t.kd==3)=true:=by rw[←e3]; exact hkd
        clear e3;by_cases hv1:t.vl.1=1
        · have g1:(t.vl.1==1)=true:=by rw[hv1]; rfl
          go_wp2_with fail
          try rw[show bs [45]=⟨#[45]⟩ from rfl]
          go_wp2_with (first | ((with_reducible refine aAP ?_); go_quiet (fail)))
          obtain⟨Wd,hWd⟩ : ∃ Wd,Wd=w3.drewN nq:=⟨_,rfl⟩;rw[←hWd]
          have hBd:Below w3.heap.size w3 Wd:=by rw[hWd]; exact aBd _ _
          clear hWd;have hPd:=hP3.below hBd;have hKd:=hK3.trans (aAo hBd);have hbd:=(hBd.block _ (Array.getElem?_eq_some_iff.1 hb3).1).trans hb3;have hzd:=hBd.size;clear c0 c1;have hH0:aNi l pb (some ⟨B,O,none⟩) lc W m t 0 false false Wd.drew:=⟨hPd.below (Below.refl _ _).drew,hKd.trans (aAo (Below.refl _ _).drew),hbd,fun h=>(by cases h)⟩;rw[←wpIn_wide (n:=0)]
          refine aAt (by kernel_rfl) (fun _=>trivial) rfl (fun f args w R h=>callsIn_wide.2 h) (by kernel_rfl)
           (fun (r:Nat) q=>match q with | 0=>.pointer (some ⟨pb,0,none⟩) | 1=>.pointer (some ⟨pb,0,none⟩) | 2=>.pointer (some ⟨pb,0,none⟩) | 3=>.slice (some ⟨B,O,none⟩) l.length lc | 4=>.pointer (some ⟨pb,0,none⟩) | 5=>.pointer (some ⟨pb,0,none⟩) | 6=>.pointer (some ⟨pb,1,none⟩) | 7=>.int .i64 (m:Int) | 8=>.pointer (some ⟨B,O+m*6,none⟩) | 9=>.pointer (some ⟨B,O+m*6+2,none⟩) | 10=>.agg #[.int .i64 t.vl.1,.int .i64 t.vl.2.1,.string (bs t.vl.2.2)] | 11=>.pointer (some ⟨r,0,none⟩) | _=>undef)
           (fun r D w'=>aNi l pb (some ⟨B,O,none⟩) lc W m t r (D 11) (D 12) w') 0 hH0 ?steps ?rdone
          case steps =>
           intro DD q o r aa W3 hop hDq hcl hdep hA hH;have hq:q<13:=(Array.getElem?_eq_some_iff.1 hop).1
           have:q=0∨q=1∨q=2∨q=3∨q=4∨q=5∨q=6∨q=7∨q=8∨q=9∨q=10∨q=11∨q=12:=by omega
           rcases this with rfl | rfl | rfl | rfl | rfl | rfl | rfl | rfl | rfl | rfl | rfl | rfl | rfl
           all_goals (simp only[List.getElem?_toArray,List.getElem?_cons_zero,List.getElem?_cons_succ,Option.some.injEq] at hop; subst hop)
           · have e0:=hA.keep 0 (by kernel_rfl);exact .inl (.inl ⟨r,W3,by simp,(by simp[execOp,go_sem,e0]),fun _ _=>rfl,hH⟩)
           · have e59:=hA.was 0 59 rfl (hdep ⟨0,.data⟩ (by simp) rfl) (by simp);exact .inl (.inl ⟨r,W3,by simp,(by simp[execOp,go_sem,e59]),fun _ _=>rfl,hH⟩)
           · have e60:=hA.was 1 60 rfl (hdep ⟨1,.data⟩ (by simp) rfl) (by simp);exact .inl (.inl ⟨r,W3,by simp,(by simp[execOp,go_sem,e60]),fun _ _=>rfl,hH⟩)
           · have e61:=hA.was 2 61 rfl (hdep ⟨2,.data⟩ (by simp) rfl) (by simp);have q0:=hH.1.c0;exact .inl (.inl ⟨r,W3,by simp,(by simp[execOp,go_sem,e61,q0]),fun _ _=>rfl,hH⟩)
           · have e0:=hA.keep 0 (by kernel_rfl);exact .inl (.inl ⟨r,W3,by simp,(by simp[execOp,go_sem,e0]),fun _ _=>rfl,hH⟩)
           · have e63:=hA.was 4 63 rfl (hdep ⟨4,.data⟩ (by simp) rfl) (by simp);exact .inl (.inl ⟨r,W3,by simp,(by simp[execOp,go_sem,e63]),fun _ _=>rfl,hH⟩)
           · have e64:=hA.was 5 64 rfl (hdep ⟨5,.data⟩ (by simp) rfl) (by simp);exact .inl (.inl ⟨r,W3,by simp,(by simp[execOp,go_sem,e64]),fun _ _=>rfl,hH⟩)
           · have e65:=hA.was 6 65 rfl (hdep ⟨6,.data⟩ (by simp) rfl) (by simp);have q1:=hH.1.c1;exact .inl (.inl ⟨r,W3,by simp,(by simp[execOp,go_sem,e65,q1]),fun _ _=>rfl,hH⟩)
           · have e62:=hA.was 3 62 rfl (hdep ⟨3,.data⟩ (by simp) rfl) (by simp);have e66:=hA.was 7 66 rfl (hdep ⟨7,.data⟩ (by simp) rfl) (by simp);exact .inl (.inl ⟨r,W3,by simp,(by simp[execOp,go_sem,e62,e66,hlti,hltn]),fun _ _=>rfl,hH⟩)
           · have e67:=hA.was 8 67 rfl (hdep ⟨8,.data⟩ (by simp) rfl) (by simp);exact .inl (.inl ⟨r,W3,by simp,(by simp[execOp,go_sem,e67]),fun _ _=>rfl,hH⟩)
           · have e68:=hA.was 9 68 rfl (hdep ⟨9,.data⟩ (by simp) rfl) (by simp);have s2:W3.cell? ⟨B,O+m*6+2,none⟩=some (.int .i64 t.vl.1):=(hH.2.1.cell (p:=⟨B,O+m*6+2,none⟩) hbl hnb).trans t2;have s3:W3.cell? ⟨B,O+m*6+3,none⟩=some (.int .i64 t.vl.2.1):=(hH.2.1.cell (p:=⟨B,O+m*6+3,none⟩) hbl hnb).trans t3;have s4:W3.cell? ⟨B,O+m*6+4,none⟩=some (.string (bs t.vl.2.2)):=(hH.2.1.cell (p:=⟨B,O+m*6+4,none⟩) hbl hnb).trans t4;exact .inl (.inl ⟨r,W3,by simp,(by simp[execOp,go_sem,e68,s2,s3,s4]),fun _ _=>rfl,hH⟩)
           · have n11:=hDq;have n12:=aAq hcl (k:=12) rfl (e:=⟨11,.data⟩) (by simp) rfl n11;refine .inl (.inl ⟨W3.heap.size,W3.alloc (.cells #[.int .i64 0,.int .i64 0,.string ⟨#[]⟩] 23),by simp,(by simp[execOp,go_sem]),fun u hu=>?_,?_⟩)
             · match u,hu with
                | 0,_=>rfl
                | 1,_=>rfl
                | 2,_=>rfl
                | 3,_=>rfl
                | 4,_=>rfl
                | 5,_=>rfl
                | 6,_=>rfl
                | 7,_=>rfl
                | 8,_=>rfl
                | 9,_=>rfl
                | 10,_=>rfl
                | 11,h=>rw[n11] at h; cases h
                | 12,_=>rfl
                | u+13,_=>rfl
             · obtain⟨hQ,hK,hb,hC⟩:=hH;show aNi l pb (some ⟨B,O,none⟩) lc W m t W3.heap.size true (DD 12) _;rw[n12];have hka:KeepP pb W3 (W3.alloc (.cells #[.int .i64 0,.int .i64 0,.string ⟨#[]⟩] 23)):=(KeepP.refl pb W3).alloc _;exact⟨hQ.alloc _,hK.trans hka,aAd hka hb (by omega),fun _=>⟨(Array.getElem?_eq_some_iff.1 hb).1,aAl _ _⟩⟩
           · have e5:=hA.was 11 5 rfl (hdep ⟨11,.data⟩ (by simp) rfl) (by simp);have e69:=hA.was 10 69 rfl (hdep ⟨10,.data⟩ (by simp) rfl) (by simp);have d11:=hdep ⟨11,.data⟩ (by simp) rfl;obtain⟨hQ,hK,hb,hC⟩:=hH;obtain⟨hlt2,hC⟩:=hC d11;rw[hDq] at hC;simp only at hC
             have x0:W3.cell? ⟨r,0,none⟩=some (.int .i64 0):=by simp[World.cell?,hC]
             have x1:W3.cell? ⟨r,1,none⟩=some (.int .i64 0):=by simp[World.cell?,hC]
             have x2:W3.cell? ⟨r,2,none⟩=some (.string ⟨#[]⟩):=by simp[World.cell?,hC]
             have xf : ∀ o,W3.frozen? ⟨r,o,none⟩=false:=fun o=>by simp[World.frozen?,hC]
             refine .inr (.inl ⟨_,rfl,by simp,(by simp[execOp,go_sem,e5,e69,x0,x1,x2,xf]; rfl),?_⟩);have hK2:KeepP pb W (((W3.setCell ⟨r,0,none⟩ (.int .i64 t.vl.1)).setCell ⟨r,1,none⟩ (.int .i64 t.vl.2.1)).setCell ⟨r,2,none⟩ (.string (bs t.vl.2.2))):=((hK.set (by omega) _ _).set (by omega) _ _).set (by omega) _ _;have hot : ∀ b,b≠r→(((W3.setCell ⟨r,0,none⟩ (.int .i64 t.vl.1)).setCell ⟨r,1,none⟩ (.int .i64 t.vl.2.1)).setCell ⟨r,2,none⟩ (.string (bs t.vl.2.2))).heap[b]? = W3.heap[b]?:=fun b hb=>(Below.heap_setCell _ _ _ _ hb).trans ((Below.heap_setCell _ _ _ _ hb).trans (Below.heap_setCell _ _ _ _ hb));show aNi l pb (some ⟨B,O,none⟩) lc W m t r (DD 11) true _;refine⟨hP.kept hK2 ((hot pb (by omega)).trans hQ.cell) hQ.le,hK2,(hot _ (by omega)).trans hb,fun _=>⟨hlt2,?_⟩⟩;have h1:=Go.heap_setCell_same W3 r 0 _ _ (.int .i64 t.vl.1) hC;have h2:=Go.heap_setCell_same _ r 1 _ _ (.int .i64 t.vl.2.1) h1;have h3:=Go.heap_setCell_same _ r 2 _ _ (.string (bs t.vl.2.2)) h2;simpa using h3
          case rdone =>
           intro DD r aa W4 hall hA hH;have ha:=hA.eq (goodR.apart (by kernel_rfl)) hall;simp only[aCS,Act.put,List.setIfInBounds_toArray,List.set_cons_zero,List.set_cons_succ] at ha;subst ha;obtain⟨hQ,hKq,hb4,hC⟩:=hH;obtain⟨hr2,hC⟩:=hC (hall 11 (by decide));rw[hall 12 (by decide)] at hC;simp only at hC;clear hA hall
           have hRe:R = .ok (.mk 1 [] (t.vl.1,aLX t.vl.2.1,t.vl.2.2) [] [] 0 false false []) (m+1):=by
            rw[←HRR.out,if_pos (by simp[hkd,hv1])]
           have HRe:=Lib.hid hRe;clear hRe HRR;gi_wp2;have c1:=hQ.c1;have fz:=hQ.fz 1;have hw:IntKind.wrap .i64 ((m:Int)+1)=(m:Int)+1:=i64_in _ (by omega);obtain⟨hPn,hkn⟩:=hQ.next hlt (z:=(m:Int)+1) (by omega);obtain⟨A,hA⟩ : ∃ A,A=W4.setCell ⟨pb,1,none⟩ (.int .i64 ((m:Int)+1)):=⟨_,rfl⟩;rw[←hA] at hPn hkn;have hr4:=(Array.getElem?_eq_some_iff.1 hC).1;have hCA:=(hkn.heap _ hr4 (by omega)).trans hC;have hbA:=aAd hkn hb4 (by omega)
           have a1:A.cell? ⟨r,1,none⟩=some (.int .i64 t.vl.2.1):=by simp[World.cell?,hCA]
           have af : ∀ o,A.frozen? ⟨r,o,none⟩=false:=fun o=>by simp[World.frozen?,hCA]
           have ng:aLX t.vl.2.1=wrap64 (-t.vl.2.1):=by unfold aLX; exact Go.IntWalk.i64_left _
           obtain⟨B2,hB2⟩ : ∃ B2,B2=A.setCell ⟨r,1,none⟩ (.int .i64 (wrap64 (-t.vl.2.1))):=⟨_,rfl⟩
           have hCB:B2.heap[r]? = some (.cells #[.int .i64 t.vl.1,.int .i64 (wrap64 (-t.vl.2.1)),.string (bs t.vl.2.2)] 23 (0,0)):=by
            have:=Go.heap_setCell_same A r 1 _ _ (.int .i64 (wrap64 (-t.vl.2.1))) hCA
            rw[hB2];simpa using this
           have hoB : ∀ b,b≠r→B2.heap[b]? = A.heap[b]?:=fun b hb=>by rw[hB2]; exact Below.heap_setCell _ _ _ _ hb
           have hKB:KeepP pb W B2:=by rw[hB2]; exact (hKq.trans hkn).set (by omega) _ _
           have hPB:PW l pb (some ⟨B,O,none⟩) lc B2 (m+1):=hP.kept hKB ((hoB pb (by omega)).trans hPn.cell) hPn.le;have hbB:=(hoB W.heap.size (by omega)).trans hbA
           have hzB:B2.heap.size=A.heap.size:=by rw[hB2]; simp
           have b0:B2.cell? ⟨r,0,none⟩=some (.int .i64 t.vl.1):=by simp[World.cell?,hCB]
           have b1:B2.cell? ⟨r,1,none⟩=some (.int .i64 (wrap64 (-t.vl.2.1))):=by simp[World.cell?,hCB]
           have b2:B2.cell? ⟨r,2,none⟩=some (.string (bs t.vl.2.2)):=by simp[World.cell?,hCB]
           have hg:GX (fun b=>b≤W.heap.size) (.mk 1 [] (t.vl.1,aLX t.vl.2.1,t.vl.2.2) [] [] 0 false false []) (.agg (xA 1 [] 1 (wrap64 (-t.vl.2.1)) t.vl.2.2 [] [] 0 false false (.slice none 0 0))) B2:=by rw[hv1,ng]; exact GX.mk' (.nil none)
           have HA:=Lib.hid hA;have HB:=Lib.hid hB2;clear hA hB2
           go_upto_region 7 with fail
           rw[←HA.out];clear HA
           go_upto_region 8 with fail
           rw[←HB.out];clear HB a1 af c1 fz hCA;obtain⟨p0,p1,p2,p3,p4,p5,p6,p7,p8,p9,p10,pf⟩:=aAf hbB;go_wp2_with fail
           exact aAF hbB (fun _ y0 y1 y2 y3 y4 y5 y6 y7 y8 y9 y10=>by simp[results,Tryz.results149,go_sem,y0,y1,y2,y3,y4,y5,y6,y7,y8,y9,y10]) rfl hP (hKB) hPB (hg) (by
            rw[HRe.out]
            try rfl)
        · have g1:(t.vl.1==1)=false:=beq_false_of_ne hv1;go_wp2_with fail
          try rw[show bs [45]=⟨#[45]⟩ from rfl]
          go_wp2_with (first | ((with_reducible refine aAP ?_); go_quiet (fail)))
          obtain⟨Wd,hWd⟩ : ∃ Wd,Wd=w3.drewN nq:=⟨_,rfl⟩;rw[←hWd]
          have hBd:Below w3.heap.size w3 Wd:=by rw[hWd]; exact aBd _ _
          clear hWd;have hPd:=hP3.below hBd;have hKd:=hK3.trans (aAo hBd);have hbd:=(hBd.block _ (Array.getElem?_eq_some_iff.1 hb3).1).trans hb3;have hzd:=hBd.size
          have hRe:R=(sg m).bind fun e j=>.ok (.mk 3 [45] nul [] [] 0 false false [e]) j:=by
           rw[←HRR.out,if_neg (fun e=>hv1 e.2.2)]
          have HRe:=Lib.hid hRe;clear hRe;have hC:=hsg Wd m hPd
          cases hr:sg m with
          | out=>exact absurd (by rw[HRe.out,hr]; rfl) hR
          | stop j =>
           rw[hr] at hC;refine Calls.mono (hC (fun h=>by cases h)) ?_;rintro e w5 ⟨rfl,hk⟩;refine⟨rfl,?_⟩;rw[HRe.out,hr];exact⟨rfl,hKd.trans hk⟩
          | ok e j =>
           rw[hr] at hC;refine Calls.mono (hC (fun h=>by cases h)) ?_;rintro e' w5 ⟨⟨v,rfl,hx⟩,hk,hP5⟩;obtain⟨k,op,⟨v0,v1,v2⟩,tb,nm,sl,nt,ds,args⟩:=e;obtain⟨sa,sc,rfl,hs⟩:=hx.form;have hb5:=aAd hk hbd (by omega);have hz5:=hk.size;have hK5:=hKd.trans hk;obtain⟨W6,hW6,hk6,hP6,hb6,hn6,hz6⟩:=aAJ hP5 hb5 (xA k op v0 v1 v2 tb nm sl nt ds (.slice sa args.length sc)) 26;have hK6:=hK5.trans hk6
           have hcv:CVR W6 (fun b=>b<Wd.heap.size) (.vs (xcs [(.mk k op (v0,v1,v2) tb nm sl nt ds args)])) (.slice (some ⟨w5.heap.size,0,none⟩) 1 1) :=
            aBp (l:=[(.mk k op (v0,v1,v2) tb nm sl nt ds args)]) hn6 (by omega) (by
             rw[List.flatMap_cons,List.flatMap_nil,List.append_nil];exact aAy (X':=fun b=>b<Wd.heap.size) ⟨fun b hn hlt=>hk6.heap b hlt (by omega),fun b hb=>.inl hb,by omega⟩ hx.cells)
           have hg:GX (fun b=>b≤W.heap.size) (.mk 3 [45] (0,0,[]) [] [] 0 false false [(.mk k op (v0,v1,v2) tb nm sl nt ds args)]) (.agg (xA 3 [45] 0 0 [] [] [] 0 false false (.slice (some ⟨w5.heap.size,0,none⟩) 1 1))) W6:=(GX.mk' hcv).mono (fun b hb=>by omega);subst hW6;obtain⟨p0,p1,p2,p3,p4,p5,p6,p7,p8,p9,p10,pf⟩:=aAf hb6;go_wp2_with fail
           exact aAF hb6 (fun _ y0 y1 y2 y3 y4 y5 y6 y7 y8 y9 y10=>by simp[results,Tryz.results149,go_sem,y0,y1,y2,y3,y4,y5,y6,y7,y8,y9,y10]) rfl hP (hK6) hP6 (hg) (by
            rw[HRe.out,hr]
            try rfl)
      · have g3:(t.kd==3)=false:=by rw[←e3]; simpa using hkd
        clear e3;go_wp2_with fail
        try rw[show bs [45]=⟨#[45]⟩ from rfl]
        go_wp2_with (first | ((with_reducible refine aAP ?_); go_quiet (fail)))
        obtain⟨Wd,hWd⟩ : ∃ Wd,Wd=w3.drewN nq:=⟨_,rfl⟩;rw[←hWd]
        have hBd:Below w3.heap.size w3 Wd:=by rw[hWd]; exact aBd _ _
        clear hWd;have hPd:=hP3.below hBd;have hKd:=hK3.trans (aAo hBd);have hbd:=(hBd.block _ (Array.getElem?_eq_some_iff.1 hb3).1).trans hb3;have hzd:=hBd.size
        have hRe:R=(sg m).bind fun e j=>.ok (.mk 3 [45] nul [] [] 0 false false [e]) j:=by
         rw[←HRR.out,if_neg (fun e=>hkd e.2.1)]
        have HRe:=Lib.hid hRe;clear hRe;have hC:=hsg Wd m hPd
        cases hr:sg m with
        | out=>exact absurd (by rw[HRe.out,hr]; rfl) hR
        | stop j =>
         rw[hr] at hC;refine Calls.mono (hC (fun h=>by cases h)) ?_;rintro e w5 ⟨rfl,hk⟩;refine⟨rfl,?_⟩;rw[HRe.out,hr];exact⟨rfl,hKd.trans hk⟩
        | ok e j =>
         rw[hr] at hC;refine Calls.mono (hC (fun h=>by cases h)) ?_;rintro e' w5 ⟨⟨v,rfl,hx⟩,hk,hP5⟩;obtain⟨k,op,⟨v0,v1,v2⟩,tb,nm,sl,nt,ds,args⟩:=e;obtain⟨sa,sc,rfl,hs⟩:=hx.form;have hb5:=aAd hk hbd (by omega);have hz5:=hk.size;have hK5:=hKd.trans hk;obtain⟨W6,hW6,hk6,hP6,hb6,hn6,hz6⟩:=aAJ hP5 hb5 (xA k op v0 v1 v2 tb nm sl nt ds (.slice sa args.length sc)) 26;have hK6:=hK5.trans hk6
         have hcv:CVR W6 (fun b=>b<Wd.heap.size) (.vs (xcs [(.mk k op (v0,v1,v2) tb nm sl nt ds args)])) (.slice (some ⟨w5.heap.size,0,none⟩) 1 1) :=
          aBp (l:=[(.mk k op (v0,v1,v2) tb nm sl nt ds args)]) hn6 (by omega) (by
           rw[List.flatMap_cons,List.flatMap_nil,List.append_nil];exact aAy (X':=fun b=>b<Wd.heap.size) ⟨fun b hn hlt=>hk6.heap b hlt (by omega),fun b hb=>.inl hb,by omega⟩ hx.cells)
         have hg:GX (fun b=>b≤W.heap.size) (.mk 3 [45] (0,0,[]) [] [] 0 false false [(.mk k op (v0,v1,v2) tb nm sl nt ds args)]) (.agg (xA 3 [45] 0 0 [] [] [] 0 false false (.slice (some ⟨w5.heap.size,0,none⟩) 1 1))) W6:=(GX.mk' hcv).mono (fun b hb=>by omega);subst hW6;obtain⟨p0,p1,p2,p3,p4,p5,p6,p7,p8,p9,p10,pf⟩:=aAf hb6;go_wp2_with fail
         exact aAF hb6 (fun _ y0 y1 y2 y3 y4 y5 y6 y7 y8 y9 y10=>by simp[results,Tryz.results149,go_sem,y0,y1,y2,y3,y4,y5,y6,y7,y8,y9,y10]) rfl hP (hK6) hP6 (hg) (by
          rw[HRe.out,hr]
          try rfl)
    · have hlti : ¬ (m:Int)<(l.length:Int):=by omega
      have hkd : ¬ aBg l 3 m=true:=by unfold aBg; simp[hlt]
      go_wp2_with fail
      try rw[show bs [45]=⟨#[45]⟩ from rfl]
      go_wp2_with (first | ((with_reducible refine aAP ?_); go_quiet (fail)))
      obtain⟨Wd,hWd⟩ : ∃ Wd,Wd=w3.drewN nq:=⟨_,rfl⟩;rw[←hWd]
      have hBd:Below w3.heap.size w3 Wd:=by rw[hWd]; exact aBd _ _
      clear hWd;have hPd:=hP3.below hBd;have hKd:=hK3.trans (aAo hBd);have hbd:=(hBd.block _ (Array.getElem?_eq_some_iff.1 hb3).1).trans hb3;have hzd:=hBd.size
      have hRe:R=(sg m).bind fun e j=>.ok (.mk 3 [45] nul [] [] 0 false false [e]) j:=by
       rw[←HRR.out,if_neg (fun e=>hkd e.2.1)]
      have HRe:=Lib.hid hRe;clear hRe;have hC:=hsg Wd m hPd
      cases hr:sg m with
      | out=>exact absurd (by rw[HRe.out,hr]; rfl) hR
      | stop j =>
       rw[hr] at hC;refine Calls.mono (hC (fun h=>by cases h)) ?_;rintro e w5 ⟨rfl,hk⟩;refine⟨rfl,?_⟩;rw[HRe.out,hr];exact⟨rfl,hKd.trans hk⟩
      | ok e j =>
       rw[hr] at hC;refine Calls.mono (hC (fun h=>by cases h)) ?_;rintro e' w5 ⟨⟨v,rfl,hx⟩,hk,hP5⟩;obtain⟨k,op,⟨v0,v1,v2⟩,tb,nm,sl,nt,ds,args⟩:=e;obtain⟨sa,sc,rfl,hs⟩:=hx.form;have hb5:=aAd hk hbd (by omega);have hz5:=hk.size;have hK5:=hKd.trans hk;obtain⟨W6,hW6,hk6,hP6,hb6,hn6,hz6⟩:=aAJ hP5 hb5 (xA k op v0 v1 v2 tb nm sl nt ds (.slice sa args.length sc)) 26;have hK6:=hK5.trans hk6
       have hcv:CVR W6 (fun b=>b<Wd.heap.size) (.vs (xcs [(.mk k op (v0,v1,v2) tb nm sl nt ds args)])) (.slice (some ⟨w5.heap.size,0,none⟩) 1 1) :=
        aBp (l:=[(.mk k op (v0,v1,v2) tb nm sl nt ds args)]) hn6 (by omega) (by
         rw[List.flatMap_cons,List.flatMap_nil,List.append_nil];exact aAy (X':=fun b=>b<Wd.heap.size) ⟨fun b hn hlt=>hk6.heap b hlt (by omega),fun b hb=>.inl hb,by omega⟩ hx.cells)
       have hg:GX (fun b=>b≤W.heap.size) (.mk 3 [45] (0,0,[]) [] [] 0 false false [(.mk k op (v0,v1,v2) tb nm sl nt ds args)]) (.agg (xA 3 [45] 0 0 [] [] [] 0 false false (.slice (some ⟨w5.heap.size,0,none⟩) 1 1))) W6:=(GX.mk' hcv).mono (fun b hb=>by omega);subst hW6;obtain⟨p0,p1,p2,p3,p4,p5,p6,p7,p8,p9,p10,pf⟩:=aAf hb6;go_wp2_with fail
       exact aAF hb6 (fun _ y0 y1 y2 y3 y4 y5 y6 y7 y8 y9 y10=>by simp[results,Tryz.results149,go_sem,y0,y1,y2,y3,y4,y5,y6,y7,y8,y9,y10]) rfl hP (hK6) hP6 (hg) (by
        rw[HRe.out,hr]
        try rfl)
  · have f0:((bs op2).toList==[45])=false:=by rw[aAh]; exact beq_false_of_ne hop
    go_wp2_with fail
    try rw[show bs [45]=⟨#[45]⟩ from rfl]
    go_wp2_with (first | ((with_reducible refine aAP ?_); go_quiet (fail)))
    obtain⟨Wd,hWd⟩ : ∃ Wd,Wd=w3.drewN nq:=⟨_,rfl⟩;rw[←hWd]
    have hBd:Below w3.heap.size w3 Wd:=by rw[hWd]; exact aBd _ _
    clear hWd;have hPd:=hP3.below hBd;have hKd:=hK3.trans (aAo hBd);have hbd:=(hBd.block _ (Array.getElem?_eq_some_iff.1 hb3).1).trans hb3;have hzd:=hBd.size
    have hRe:R=(sg m).bind fun e j=>.ok (.mk 3 op2 nul [] [] 0 false false [e]) j:=by
     rw[←HRR.out,if_neg (fun e=>hop e.1)]
    have HRe:=Lib.hid hRe;clear hRe;have hC:=hsg Wd m hPd
    cases hr:sg m with
    | out=>exact absurd (by rw[HRe.out,hr]; rfl) hR
    | stop j =>
     rw[hr] at hC;refine Calls.mono (hC (fun h=>by cases h)) ?_;rintro e w5 ⟨rfl,hk⟩;refine⟨rfl,?_⟩;rw[HRe.out,hr];exact⟨rfl,hKd.trans hk⟩
    | ok e j =>
     rw[hr] at hC;refine Calls.mono (hC (fun h=>by cases h)) ?_;rintro e' w5 ⟨⟨v,rfl,hx⟩,hk,hP5⟩;obtain⟨k,op,⟨v0,v1,v2⟩,tb,nm,sl,nt,ds,args⟩:=e;obtain⟨sa,sc,rfl,hs⟩:=hx.form;have hb5:=aAd hk hbd (by omega);have hz5:=hk.size;have hK5:=hKd.trans hk;obtain⟨W6,hW6,hk6,hP6,hb6,hn6,hz6⟩:=aAJ hP5 hb5 (xA k op v0 v1 v2 tb nm sl nt ds (.slice sa args.length sc)) 26;have hK6:=hK5.trans hk6
     have hcv:CVR W6 (fun b=>b<Wd.heap.size) (.vs (xcs [(.mk k op (v0,v1,v2) tb nm sl nt ds args)])) (.slice (some ⟨w5.heap.size,0,none⟩) 1 1) :=
      aBp (l:=[(.mk k op (v0,v1,v2) tb nm sl nt ds args)]) hn6 (by omega) (by
       rw[List.flatMap_cons,List.flatMap_nil,List.append_nil];exact aAy (X':=fun b=>b<Wd.heap.size) ⟨fun b hn hlt=>hk6.heap b hlt (by omega),fun b hb=>.inl hb,by omega⟩ hx.cells)
     have hg:GX (fun b=>b≤W.heap.size) (.mk 3 op2 (0,0,[]) [] [] 0 false false [(.mk k op (v0,v1,v2) tb nm sl nt ds args)]) (.agg (xA 3 op2 0 0 [] [] [] 0 false false (.slice (some ⟨w5.heap.size,0,none⟩) 1 1))) W6:=(GX.mk' hcv).mono (fun b hb=>by omega);subst hW6;obtain⟨p0,p1,p2,p3,p4,p5,p6,p7,p8,p9,p10,pf⟩:=aAf hb6;go_wp2_with fail
     exact aAF hb6 (fun _ y0 y1 y2 y3 y4 y5 y6 y7 y8 y9 y10=>by simp[results,Tryz.results149,go_sem,y0,y1,y2,y3,y4,y5,y6,y7,y8,y9,y10]) rfl hP (hK6) hP6 (hg) (by
      rw[HRe.out,hr]
      try rfl)
end
end
end Go.Proofs.YtcdeimjlgpfjiaaGreatDoor
