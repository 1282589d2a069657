/- The parser's casts. Condition: what its expressions come to. -/
import Derived.Test.YtcdeimjlgpfjiaaGreatDoorG21
set_option linter.unusedSimpArgs false
set_option linter.unusedVariables false
namespace Go.Proofs.YtcdeimjlgpfjiaaGreatDoor
section
open Go.RowKit Go.IntWalk
attribute [local go_sem] Oper.semAt_some
section
variable {l:List Tok} {pb:Nat} {la:Option Addr} {lc:Nat}
theorem aH4 {a b c d e f:Prop} {G:Prop} (h:a∨(b∧c)∨(d∧e∧f)) (h1:a→G) (h2:b→c→G) (h3:d→e→f→G):G:=by
 rcases h with h | ⟨h,g⟩ | ⟨h,g,k⟩
 · exact h1 h
 · exact h2 h g
 · exact h3 h g k
def aMY (l:List Tok) (pb:Nat) (la:Option Addr) (lc:Nat) (W W0:World) (m g:Nat) (c0 c1:Array Value) (d:Bool) (w:World):Prop :=
 PW l pb la lc w m∧KeepP pb W w∧KeepG (fun b=>b=pb∨b=g) W0 w∧w.heap[g]? = some (.cells (match d with | false=>c0 | true=>c1) 26 (0,0))
set_option maxHeartbeats 16000000 in
set_option maxRecDepth 100000 in
theorem aLk {ex:Nat→PR Xp} (htx : ∀ i,Sm (l.getD i default).tx) (hex:aAY l pb la lc 37 ex):aAY l pb la lc 154 (aFr l ex):=by
 intro W i hP hR;generalize hRR:aFr l ex i=R at hR ⊢;have hRe:=hRR.symm;unfold aFr at hRe;have HRe:=Lib.hid hRe;clear hRe hRR;obtain⟨W1,hW1⟩ : ∃ W1,W1=W.alloc (.cells z11 26):=⟨_,rfl⟩
 have hK1:KeepP pb W W1:=by rw[hW1]; exact (KeepP.refl pb W).alloc _
 have hP1:PW l pb la lc W1 i:=by rw[hW1]; exact hP.alloc _
 have hz1:W1.heap.size=W.heap.size+1:=by rw[hW1]; simp
 have hpl:=hP.lt
 have hb1:W1.heap[W.heap.size]? = some (.cells z11 26 (0,0)):=by rw[hW1]; exact aAl _ _
 go_enter Tryz.func154,Tryz.ntmps154
 have hM:=aAK hP1 4 [40];go_wp2_with fail;rw[←hW1];clear hW1
 cases hm2:aAB l 4 [40] i with
 | out =>
  unfold aAB at hm2;split at hm2 <;> cases hm2
 | stop q =>
  rw[hm2] at hM;refine Calls.mono hM ?_;rintro e w2 ⟨rfl,hk2⟩;refine⟨rfl,?_⟩;rw[HRe.out];simp only[PR.bind,hm2];exact⟨rfl,hK1.trans hk2⟩
 | ok u m2 =>
  rw[hm2] at hM;refine Calls.mono hM ?_;rintro e w2 ⟨⟨v,rfl,hv⟩,hk2,hP2⟩;subst hv;have hb2:=aAd hk2 hb1 (by omega);have hz2:=hk2.size;have hK2:=hK1.trans hk2;have hC:=hex w2 m2 hP2;go_wp2_with fail
  cases hr:ex m2 with
  | out=>exact absurd (by rw[HRe.out]; simp only[PR.bind,hm2,hr]) hR
  | stop j =>
   rw[hr] at hC;refine Calls.mono (hC (fun h=>by cases h)) ?_;rintro e w3 ⟨rfl,hk⟩;refine⟨rfl,?_⟩;rw[HRe.out];simp only[PR.bind,hm2,hr];exact⟨rfl,hK2.trans hk⟩
  | ok e j =>
   rw[hr] at hC;refine Calls.mono (hC (fun h=>by cases h)) ?_;rintro e' w3 ⟨⟨v,rfl,hx⟩,hk3,hP3⟩;obtain⟨k,op,⟨v0,v1,v2⟩,tb,nm,sl,nt,ds,args⟩:=e;obtain⟨sa,sc,rfl,hs⟩:=hx.form;have hb3:=aAd hk3 hb2 (by omega);have hz3:=hk3.size;have hK3:=hK2.trans hk3;obtain⟨W4,hW4,hk4,hP4,hb4,hn4,hz4⟩:=aAJ hP3 hb3 (xA k op v0 v1 v2 tb nm sl nt ds (.slice sa args.length sc)) 26;have hK4:=hK3.trans hk4;obtain⟨W5,hW5,hk5,hP5,hb5,hn5,hz5⟩:=aAJ hP4 hb4 #[.int .i64 12,.string ⟨#[]⟩,.int .i64 0,.int .i64 0,.string ⟨#[]⟩,.string ⟨#[]⟩,.string ⟨#[]⟩,.int .i64 0,.bool false,.bool false,.slice (some ⟨w3.heap.size,0,none⟩) 1 1] 26;rw[hz4] at hn5;have hK5:=hK4.trans hk5
   have hcv:CVR W5 (fun b=>b<w2.heap.size∨b=w3.heap.size+1) (.vs (xcs [(.mk k op (v0,v1,v2) tb nm sl nt ds args)])) (.slice (some ⟨w3.heap.size,0,none⟩) 1 1) :=
    aBp (l:=[(.mk k op (v0,v1,v2) tb nm sl nt ds args)]) (aAd hk5 hn4 (by have:=hP3.lt; omega)) (by omega) (by
     rw[List.flatMap_cons,List.flatMap_nil,List.append_nil];exact aAy ⟨fun b hn hlt=>(hk5.heap b (by omega) (by have:=hP2.lt; omega)).trans (hk4.heap b hlt (by have:=hP2.lt; omega)),fun b hb=>hb.elim .inl (fun e=>.inr (by omega)),by omega⟩ hx.cells)
   have hM:=aAK hP5 2 [97,115];go_wp2_with fail;rw[←hW4];rw[←hW5];clear hW4 hW5
   cases hm6:aAB l 2 [97,115] j with
   | out =>
    unfold aAB at hm6;split at hm6 <;> cases hm6
   | stop q =>
    rw[hm6] at hM;refine Calls.mono hM ?_;rintro e w6 ⟨rfl,hk6⟩;refine⟨rfl,?_⟩;rw[HRe.out];simp only[PR.bind,hm2,hr,hm6];exact⟨rfl,hK5.trans hk6⟩
   | ok u m6 =>
    rw[hm6] at hM;refine Calls.mono hM ?_;rintro e w6 ⟨⟨v,rfl,hv⟩,hk6,hP6⟩;subst hv;have hb6:=aAd hk6 hb5 (by omega);have hz6:=hk6.size;have hK6:=hK5.trans hk6;have hn6:=aAd hk6 hn5 (by omega);have c0:=hP6.c0;have c1:=hP6.c1;have hle:=hP6.le;have hbig:=hP6.big;have hsm:=htx m6;obtain⟨r0,r1,r2,r3,r4,r5,r6,r7,r8,r9,r10,_⟩:=aAf hn6;by_cases hlt:m6<l.length
    · have hlti:(m6:Int)<(l.length:Int):=by omega
      have hltn : ¬ (l.length:Int)≤(m6:Int):=by omega
      obtain⟨B,O,rfl,hnb,hbl,hcap,t0,t1,_⟩:=hP.tok hlt;have tt0:=(hK6.cell (p:=⟨B,O+m6*6,none⟩) hbl hnb).trans t0
      have e2:aBg l 2 m6=((l.getD m6 default).kd==2):=by unfold aBg; simp[hlt]
      have e1:aBg l 1 m6=((l.getD m6 default).kd==1):=by unfold aBg; simp[hlt]
      obtain⟨t,ht⟩ : ∃ t,t=l.getD m6 default:=⟨_,rfl⟩;rw[←ht] at t0 t1 tt0 e2 e1 hsm;have HT:=Lib.hid ht;clear ht;by_cases hk:aBg l 2 m6=true
      · have g2:(t.kd==2)=true:=by rw[e2] at hk; exact hk
        have hkk:(aBg l 2 m6||aBg l 1 m6)=true:=by rw[hk]; rfl
        clear e1 e2 hk;go_wp2_with fail
        go_wp2_with (first | ((with_reducible refine aAP ?_); go_quiet (fail)))
        obtain⟨Wd,hWd⟩ : ∃ Wd,Wd=w6.drewN nq:=⟨_,rfl⟩;rw[←hWd]
        have hBd:Below w6.heap.size w6 Wd:=by rw[hWd]; exact aBd _ _
        clear hWd;have hPd:=hP6.below hBd;have hKd:=hK6.trans (aAo hBd);have hnd:=(hBd.block _ (Array.getElem?_eq_some_iff.1 hn6).1).trans hn6;have hbd:=(hBd.block _ (Array.getElem?_eq_some_iff.1 hb6).1).trans hb6;clear r0 r1 r2 r3 r4 r5 r6 r7 r8 r9 r10 c0 c1;have hH0:aMY l pb (some ⟨B,O,none⟩) lc W Wd m6 (w3.heap.size+1) (#[.int .i64 12,.string ⟨#[]⟩,.int .i64 0,.int .i64 0,.string ⟨#[]⟩,.string ⟨#[]⟩,.string ⟨#[]⟩,.int .i64 0,.bool false,.bool false,.slice (some ⟨w3.heap.size,0,none⟩) 1 1]) (#[.int .i64 12,.string (bs (aAn t.tx)),.int .i64 0,.int .i64 0,.string ⟨#[]⟩,.string ⟨#[]⟩,.string ⟨#[]⟩,.int .i64 0,.bool false,.bool false,.slice (some ⟨w3.heap.size,0,none⟩) 1 1]) false Wd.drew:=⟨hPd.below (Below.refl _ _).drew,hKd.trans (aAo (Below.refl _ _).drew),KeepG.refl.drew,hnd⟩;rw[←wpIn_wide (n:=0)]
        refine aAt (by kernel_rfl) (fun _=>trivial) rfl (fun f args w R h=>callsIn_wide.2 h) (by kernel_rfl)
         (fun (r:Unit) q=>match q with | 0=>.pointer (some ⟨pb,0,none⟩) | 1=>.pointer (some ⟨pb,0,none⟩) | 2=>.pointer (some ⟨pb,0,none⟩) | 3=>.slice (some ⟨B,O,none⟩) l.length lc | 4=>.pointer (some ⟨pb,0,none⟩) | 5=>.pointer (some ⟨pb,0,none⟩) | 6=>.pointer (some ⟨pb,1,none⟩) | 7=>.int .i64 (m6:Int) | 8=>.pointer (some ⟨B,O+m6*6,none⟩) | 9=>.pointer (some ⟨B,O+m6*6+1,none⟩) | 10=>.string (bs t.tx) | 11=>.string (bs (aAn t.tx)) | 12=>.pointer (some ⟨w3.heap.size+1,1,none⟩) | _=>undef)
         (fun r D w'=>aMY l pb (some ⟨B,O,none⟩) lc W Wd m6 (w3.heap.size+1) (#[.int .i64 12,.string ⟨#[]⟩,.int .i64 0,.int .i64 0,.string ⟨#[]⟩,.string ⟨#[]⟩,.string ⟨#[]⟩,.int .i64 0,.bool false,.bool false,.slice (some ⟨w3.heap.size,0,none⟩) 1 1]) (#[.int .i64 12,.string (bs (aAn t.tx)),.int .i64 0,.int .i64 0,.string ⟨#[]⟩,.string ⟨#[]⟩,.string ⟨#[]⟩,.int .i64 0,.bool false,.bool false,.slice (some ⟨w3.heap.size,0,none⟩) 1 1]) (D 13) w') () hH0 ?steps ?rdone
        case steps =>
         intro DD q o r aa W3 hop hDq hcl hdep hA hH;have hq:q<14:=(Array.getElem?_eq_some_iff.1 hop).1
         have:q=0∨q=1∨q=2∨q=3∨q=4∨q=5∨q=6∨q=7∨q=8∨q=9∨q=10∨q=11∨q=12∨q=13:=by omega
         rcases this with rfl | rfl | rfl | rfl | rfl | rfl | rfl | rfl | rfl | rfl | rfl | rfl | rfl | rfl
         all_goals (simp only[List.getElem?_toArray,List.getElem?_cons_zero,List.getElem?_cons_succ,Option.some.injEq] at hop; subst hop)
         · have e0:=hA.keep 0 (by kernel_rfl);exact .inl (.inl ⟨r,W3,by simp,(by simp[execOp,go_sem,e0]),fun _ _=>rfl,hH⟩)
         · have e50:=hA.was 0 50 rfl (hdep ⟨0,.data⟩ (by simp) rfl) (by simp);exact .inl (.inl ⟨r,W3,by simp,(by simp[execOp,go_sem,e50]),fun _ _=>rfl,hH⟩)
         · have e51:=hA.was 1 51 rfl (hdep ⟨1,.data⟩ (by simp) rfl) (by simp);exact .inl (.inl ⟨r,W3,by simp,(by simp[execOp,go_sem,e51]),fun _ _=>rfl,hH⟩)
         · have e52:=hA.was 2 52 rfl (hdep ⟨2,.data⟩ (by simp) rfl) (by simp);have q0:=hH.1.c0;exact .inl (.inl ⟨r,W3,by simp,(by simp[execOp,go_sem,e52,q0]),fun _ _=>rfl,hH⟩)
         · have e0:=hA.keep 0 (by kernel_rfl);exact .inl (.inl ⟨r,W3,by simp,(by simp[execOp,go_sem,e0]),fun _ _=>rfl,hH⟩)
         · have e54:=hA.was 4 54 rfl (hdep ⟨4,.data⟩ (by simp) rfl) (by simp);exact .inl (.inl ⟨r,W3,by simp,(by simp[execOp,go_sem,e54]),fun _ _=>rfl,hH⟩)
         · have e55:=hA.was 5 55 rfl (hdep ⟨5,.data⟩ (by simp) rfl) (by simp);exact .inl (.inl ⟨r,W3,by simp,(by simp[execOp,go_sem,e55]),fun _ _=>rfl,hH⟩)
         · have e56:=hA.was 6 56 rfl (hdep ⟨6,.data⟩ (by simp) rfl) (by simp);have q1:=hH.1.c1;exact .inl (.inl ⟨r,W3,by simp,(by simp[execOp,go_sem,e56,q1]),fun _ _=>rfl,hH⟩)
         · have e53:=hA.was 3 53 rfl (hdep ⟨3,.data⟩ (by simp) rfl) (by simp);have e57:=hA.was 7 57 rfl (hdep ⟨7,.data⟩ (by simp) rfl) (by simp);exact .inl (.inl ⟨r,W3,by simp,(by simp[execOp,go_sem,e53,e57,hlti,hltn]),fun _ _=>rfl,hH⟩)
         · have e58:=hA.was 8 58 rfl (hdep ⟨8,.data⟩ (by simp) rfl) (by simp);exact .inl (.inl ⟨r,W3,by simp,(by simp[execOp,go_sem,e58]),fun _ _=>rfl,hH⟩)
         · have e59:=hA.was 9 59 rfl (hdep ⟨9,.data⟩ (by simp) rfl) (by simp);have s1:W3.cell? ⟨B,O+m6*6+1,none⟩=some (.string (bs t.tx)):=(hH.2.1.cell (p:=⟨B,O+m6*6+1,none⟩) hbl hnb).trans t1;exact .inl (.inl ⟨r,W3,by simp,(by simp[execOp,go_sem,e59,s1]),fun _ _=>rfl,hH⟩)
         · have e60:=hA.was 10 60 rfl (hdep ⟨10,.data⟩ (by simp) rfl) (by simp);have n11:=hDq;have n13:=aAq hcl (k:=13) rfl (e:=⟨11,.data⟩) (by simp) rfl n11;refine .inl (.inr ⟨25,#[.string (bs t.tx)],by simp,(by simp[execOp,go_sem,e60]),Calls.mono (aEC W3 hH.1.glo t.tx hsm) ?_⟩);rintro e w' ⟨rfl,hB⟩;refine⟨r,rfl,fun _ _=>rfl,?_⟩;obtain⟨hQ,hK,hG,hC⟩:=hH;have hz:=hG.size;have hW:=hK.size;exact⟨hQ.below hB,hK.trans (aAo hB),hG.below hB,(hB.block _ (by have:=(Array.getElem?_eq_some_iff.1 hC).1; omega)).trans hC⟩
         · have e3:=hA.keep 3 (by kernel_rfl);exact .inl (.inl ⟨r,W3,by simp,(by simp[execOp,go_sem,e3]),fun _ _=>rfl,hH⟩)
         · have e62:=hA.was 12 62 rfl (hdep ⟨12,.data⟩ (by simp) rfl) (by simp);have e61:=hA.was 11 61 rfl (hdep ⟨11,.data⟩ (by simp) rfl) (by simp);obtain⟨hQ,hK,hG,hC⟩:=hH;rw[hDq] at hC;simp only at hC;obtain⟨x0,x1,x2,x3,x4,x5,x6,x7,x8,x9,x10,xf⟩:=aAf hC;refine .inr (.inl ⟨_,rfl,by simp,(by simp[execOp,go_sem,e62,e61,x1,xf]; rfl),?_⟩);have hK2:KeepP pb W (W3.setCell ⟨w3.heap.size+1,1,none⟩ (.string (bs (aAn t.tx)))):=hK.set (by omega) _ _;refine⟨hP.kept hK2 ((Below.heap_setCell _ _ _ _ (by show pb≠w3.heap.size+1; omega)).trans hQ.cell) hQ.le,hK2,hG.set (.inr rfl) _ _,?_⟩
           have:=Go.heap_setCell_same W3 (w3.heap.size+1) 1 _ _ (.string (bs (aAn t.tx))) hC
           simpa[aEi] using this
        case rdone =>
         intro DD r aa W4 hall hA hH;have ha:=hA.eq (goodR.apart (by kernel_rfl)) hall;simp only[aCS,Act.put,List.setIfInBounds_toArray,List.set_cons_zero,List.set_cons_succ] at ha;subst ha;obtain⟨hQ,hKq,hGq,hC⟩:=hH;rw[hall 13 (by decide)] at hC;simp only at hC;clear hA hall;have hz4:=hGq.size;have hb4:W4.heap[W.heap.size]? = some (.cells z11 26 (0,0)):=hGq.keepLt hbd (by omega);gi_wp2;obtain⟨y0,y1,y2,y3,y4,y5,y6,y7,y8,y9,y10,_⟩:=aAf hC;have c1:=hQ.c1;have fz:=hQ.fz 1;have hw:IntKind.wrap .i64 ((m6:Int)+1)=(m6:Int)+1:=i64_in _ (by omega);by_cases hty:tyB (aAn t.tx)=true
         · have hs:aAn t.tx=[105,110,116]∨aAn t.tx=[116,101,120,116]∨aAn t.tx=[98,108,111,98]:=by
            unfold tyB at hty;simpa[or_assoc] using hty
           have hRe:R=(aAB l 4 [41] (m6+1)).bind fun _ q=>.ok (.mk 12 (aAn t.tx) nul [] [] 0 false false [(.mk k op (v0,v1,v2) tb nm sl nt ds args)]) q:=by
            rw[HRe.out];simp only[PR.bind,hm2,hr,hm6];rw[←HT.out,hkk,hty];rfl
           have HRe:=Lib.hid hRe;clear hRe;obtain⟨hPn,hkn⟩:=hQ.next hlt (z:=(m6:Int)+1) (by omega);obtain⟨Wn,hWn⟩ : ∃ Wn,Wn=W4.setCell ⟨pb,1,none⟩ (.int .i64 ((m6:Int)+1)):=⟨_,rfl⟩;rw[←hWn] at hPn hkn;have hKn:=hKq.trans hkn;have hbn:Wn.heap[W.heap.size]? = some (.cells z11 26 (0,0)):=(hkn.heap _ (Array.getElem?_eq_some_iff.1 hb4).1 (by omega)).trans hb4;have hn6:=(hkn.heap _ (Array.getElem?_eq_some_iff.1 hC).1 (by omega)).trans hC;have hzn:=hkn.size
           have fs:(((bs (aAn t.tx)).toList==[105,110,116])=true)∨(((bs (aAn t.tx)).toList==[105,110,116])=false∧((bs (aAn t.tx)).toList==[116,101,120,116])=true)∨(((bs (aAn t.tx)).toList==[105,110,116])=false∧((bs (aAn t.tx)).toList==[116,101,120,116])=false∧((bs (aAn t.tx)).toList==[98,108,111,98])=true):=by
            rw[aAh];rcases hs with h | h | h <;> rw[h] <;> decide
           clear hs hty;have hM:=aAK hPn 4 [41];refine aH4 fs (fun f0=>?_) (fun f0 f1=>?_) (fun f0 f1 f2=>?_)
           all_goals
            have hM:=aAK hPn 4 [41];go_wp2_with fail;rw[←hWn];clear hWn
            cases hm7:aAB l 4 [41] (m6+1) with
            | out =>
             unfold aAB at hm7;split at hm7 <;> cases hm7
            | stop q =>
             rw[hm7] at hM;refine Calls.mono hM ?_;rintro e w7 ⟨rfl,hk7⟩;refine⟨rfl,?_⟩;rw[HRe.out];simp only[PR.bind,hm7];exact⟨rfl,hKn.trans hk7⟩
            | ok u m7 =>
             rw[hm7] at hM;refine Calls.mono hM ?_;rintro e w7 ⟨⟨v,rfl,hv⟩,hk7,hP7⟩;subst hv;have hb7:=aAd hk7 hbn (by omega);have hz7:=hk7.size;have hK7:=hKn.trans hk7;have hn7:=aAd hk7 hn6 (by omega);have hGx:KeepG (fun b=>b=pb∨b=w3.heap.size+1) W5 w7:=((hk6.g (.inl rfl)).below hBd).trans ((hGq.trans (hkn.g (.inl rfl))).trans (hk7.g (.inl rfl)))
             have hg:GX (fun b=>b≤W.heap.size) (.mk 12 (aAn t.tx) (0,0,[]) [] [] 0 false false [(.mk k op (v0,v1,v2) tb nm sl nt ds args)]) (.agg (xA 12 (aAn t.tx) 0 0 [] [] [] 0 false false (.slice (some ⟨w3.heap.size,0,none⟩) 1 1))) w7 :=
              GX.mk' (hcv.step (hGx.stays (fun b hb=>hb.elim (fun e=>.inl (by omega)) .inr) (fun b hb=>.inl (.inl (by omega)))))
             obtain⟨z0,z1,z2,z3,z4,z5,z6,z7,z8,z9,z10,_⟩:=aAf hn7;obtain⟨p0,p1,p2,p3,p4,p5,p6,p7,p8,p9,p10,pf⟩:=aAf hb7;go_wp2_with fail
             exact aAF hb7 (fun _ y0 y1 y2 y3 y4 y5 y6 y7 y8 y9 y10=>by simp[results,Tryz.results154,go_sem,y0,y1,y2,y3,y4,y5,y6,y7,y8,y9,y10]) rfl hP (hK7) hP7 (hg) (by
              rw[HRe.out];simp only[PR.bind,hm7]
              try rfl)
         · have f0:((bs (aAn t.tx)).toList==[105,110,116])=false:=by rw[aAh]; unfold tyB at hty; cases h:aAn t.tx==[105,110,116] <;> simp_all
           have f1:((bs (aAn t.tx)).toList==[116,101,120,116])=false:=by rw[aAh]; unfold tyB at hty; cases h:aAn t.tx==[116,101,120,116] <;> simp_all
           have f2:((bs (aAn t.tx)).toList==[98,108,111,98])=false:=by rw[aAh]; unfold tyB at hty; cases h:aAn t.tx==[98,108,111,98] <;> simp_all
           go_wp2_with fail;refine Calls.mono (aBB hQ) ?_;rintro e w12 ⟨rfl,rfl⟩;refine⟨rfl,?_⟩;rw[HRe.out];simp only[PR.bind,hm2,hr,hm6];rw[if_neg (by rw[←HT.out]; simp[hty])];exact⟨rfl,hKq⟩
      · by_cases hk1:aBg l 1 m6=true
        · have g2:(t.kd==2)=false:=by rw[e2] at hk; simpa using hk
          have g1:(t.kd==1)=true:=by rw[e1] at hk1; exact hk1
          have hkk:(aBg l 2 m6||aBg l 1 m6)=true:=by rw[hk1]; simp
          clear e1 e2 hk hk1;go_wp2_with fail
          go_wp2_with (first | ((with_reducible refine aAP ?_); go_quiet (fail)))
          obtain⟨Wd,hWd⟩ : ∃ Wd,Wd=w6.drewN nq:=⟨_,rfl⟩;rw[←hWd]
          have hBd:Below w6.heap.size w6 Wd:=by rw[hWd]; exact aBd _ _
          clear hWd;have hPd:=hP6.below hBd;have hKd:=hK6.trans (aAo hBd);have hnd:=(hBd.block _ (Array.getElem?_eq_some_iff.1 hn6).1).trans hn6;have hbd:=(hBd.block _ (Array.getElem?_eq_some_iff.1 hb6).1).trans hb6;clear r0 r1 r2 r3 r4 r5 r6 r7 r8 r9 r10 c0 c1;have hH0:aMY l pb (some ⟨B,O,none⟩) lc W Wd m6 (w3.heap.size+1) (#[.int .i64 12,.string ⟨#[]⟩,.int .i64 0,.int .i64 0,.string ⟨#[]⟩,.string ⟨#[]⟩,.string ⟨#[]⟩,.int .i64 0,.bool false,.bool false,.slice (some ⟨w3.heap.size,0,none⟩) 1 1]) (#[.int .i64 12,.string (bs (aAn t.tx)),.int .i64 0,.int .i64 0,.string ⟨#[]⟩,.string ⟨#[]⟩,.string ⟨#[]⟩,.int .i64 0,.bool false,.bool false,.slice (some ⟨w3.heap.size,0,none⟩) 1 1]) false Wd.drew:=⟨hPd.below (Below.refl _ _).drew,hKd.trans (aAo (Below.refl _ _).drew),KeepG.refl.drew,hnd⟩;rw[←wpIn_wide (n:=0)]
          refine aAt (by kernel_rfl) (fun _=>trivial) rfl (fun f args w R h=>callsIn_wide.2 h) (by kernel_rfl)
           (fun (r:Unit) q=>match q with | 0=>.pointer (some ⟨pb,0,none⟩) | 1=>.pointer (some ⟨pb,0,none⟩) | 2=>.pointer (some ⟨pb,0,none⟩) | 3=>.slice (some ⟨B,O,none⟩) l.length lc | 4=>.pointer (some ⟨pb,0,none⟩) | 5=>.pointer (some ⟨pb,0,none⟩) | 6=>.pointer (some ⟨pb,1,none⟩) | 7=>.int .i64 (m6:Int) | 8=>.pointer (some ⟨B,O+m6*6,none⟩) | 9=>.pointer (some ⟨B,O+m6*6+1,none⟩) | 10=>.string (bs t.tx) | 11=>.string (bs (aAn t.tx)) | 12=>.pointer (some ⟨w3.heap.size+1,1,none⟩) | _=>undef)
           (fun r D w'=>aMY l pb (some ⟨B,O,none⟩) lc W Wd m6 (w3.heap.size+1) (#[.int .i64 12,.string ⟨#[]⟩,.int .i64 0,.int .i64 0,.string ⟨#[]⟩,.string ⟨#[]⟩,.string ⟨#[]⟩,.int .i64 0,.bool false,.bool false,.slice (some ⟨w3.heap.size,0,none⟩) 1 1]) (#[.int .i64 12,.string (bs (aAn t.tx)),.int .i64 0,.int .i64 0,.string ⟨#[]⟩,.string ⟨#[]⟩,.string ⟨#[]⟩,.int .i64 0,.bool false,.bool false,.slice (some ⟨w3.heap.size,0,none⟩) 1 1]) (D 13) w') () hH0 ?steps ?rdone
          case steps =>
           intro DD q o r aa W3 hop hDq hcl hdep hA hH;have hq:q<14:=(Array.getElem?_eq_some_iff.1 hop).1
           have:q=0∨q=1∨q=2∨q=3∨q=4∨q=5∨q=6∨q=7∨q=8∨q=9∨q=10∨q=11∨q=12∨q=13:=by omega
           rcases this with rfl | rfl | rfl | rfl | rfl | rfl | rfl | rfl | rfl | rfl | rfl | rfl | rfl | rfl
           all_goals (simp only[List.getElem?_toArray,List.getElem?_cons_zero,List.getElem?_cons_succ,Option.some.injEq] at hop; subst hop)
           · have e0:=hA.keep 0 (by kernel_rfl);exact .inl (.inl ⟨r,W3,by simp,(by simp[execOp,go_sem,e0]),fun _ _=>rfl,hH⟩)
           · have e50:=hA.was 0 50 rfl (hdep ⟨0,.data⟩ (by simp) rfl) (by simp);exact .inl (.inl ⟨r,W3,by simp,(by simp[execOp,go_sem,e50]),fun _ _=>rfl,hH⟩)
           · have e51:=hA.was 1 51 rfl (hdep ⟨1,.data⟩ (by simp) rfl) (by simp);exact .inl (.inl ⟨r,W3,by simp,(by simp[execOp,go_sem,e51]),fun _ _=>rfl,hH⟩)
           · have e52:=hA.was 2 52 rfl (hdep ⟨2,.data⟩ (by simp) rfl) (by simp);have q0:=hH.1.c0;exact .inl (.inl ⟨r,W3,by simp,(by simp[execOp,go_sem,e52,q0]),fun _ _=>rfl,hH⟩)
           · have e0:=hA.keep 0 (by kernel_rfl);exact .inl (.inl ⟨r,W3,by simp,(by simp[execOp,go_sem,e0]),fun _ _=>rfl,hH⟩)
           · have e54:=hA.was 4 54 rfl (hdep ⟨4,.data⟩ (by simp) rfl) (by simp);exact .inl (.inl ⟨r,W3,by simp,(by simp[execOp,go_sem,e54]),fun _ _=>rfl,hH⟩)
           · have e55:=hA.was 5 55 rfl (hdep ⟨5,.data⟩ (by simp) rfl) (by simp);exact .inl (.inl ⟨r,W3,by simp,(by simp[execOp,go_sem,e55]),fun _ _=>rfl,hH⟩)
           · have e56:=hA.was 6 56 rfl (hdep ⟨6,.data⟩ (by simp) rfl) (by simp);have q1:=hH.1.c1;exact .inl (.inl ⟨r,W3,by simp,(by simp[execOp,go_sem,e56,q1]),fun _ _=>rfl,hH⟩)
           · have e53:=hA.was 3 53 rfl (hdep ⟨3,.data⟩ (by simp) rfl) (by simp);have e57:=hA.was 7 57 rfl (hdep ⟨7,.data⟩ (by simp) rfl) (by simp);exact .inl (.inl ⟨r,W3,by simp,(by simp[execOp,go_sem,e53,e57,hlti,hltn]),fun _ _=>rfl,hH⟩)
           · have e58:=hA.was 8 58 rfl (hdep ⟨8,.data⟩ (by simp) rfl) (by simp);exact .inl (.inl ⟨r,W3,by simp,(by simp[execOp,go_sem,e58]),fun _ _=>rfl,hH⟩)
           · have e59:=hA.was 9 59 rfl (hdep ⟨9,.data⟩ (by simp) rfl) (by simp);have s1:W3.cell? ⟨B,O+m6*6+1,none⟩=some (.string (bs t.tx)):=(hH.2.1.cell (p:=⟨B,O+m6*6+1,none⟩) hbl hnb).trans t1;exact .inl (.inl ⟨r,W3,by simp,(by simp[execOp,go_sem,e59,s1]),fun _ _=>rfl,hH⟩)
           · have e60:=hA.was 10 60 rfl (hdep ⟨10,.data⟩ (by simp) rfl) (by simp);have n11:=hDq;have n13:=aAq hcl (k:=13) rfl (e:=⟨11,.data⟩) (by simp) rfl n11;refine .inl (.inr ⟨25,#[.string (bs t.tx)],by simp,(by simp[execOp,go_sem,e60]),Calls.mono (aEC W3 hH.1.glo t.tx hsm) ?_⟩);rintro e w' ⟨rfl,hB⟩;refine⟨r,rfl,fun _ _=>rfl,?_⟩;obtain⟨hQ,hK,hG,hC⟩:=hH;have hz:=hG.size;have hW:=hK.size;exact⟨hQ.below hB,hK.trans (aAo hB),hG.below hB,(hB.block _ (by have:=(Array.getElem?_eq_some_iff.1 hC).1; omega)).trans hC⟩
           · have e3:=hA.keep 3 (by kernel_rfl);exact .inl (.inl ⟨r,W3,by simp,(by simp[execOp,go_sem,e3]),fun _ _=>rfl,hH⟩)
           · have e62:=hA.was 12 62 rfl (hdep ⟨12,.data⟩ (by simp) rfl) (by simp);have e61:=hA.was 11 61 rfl (hdep ⟨11,.data⟩ (by simp) rfl) (by simp);obtain⟨hQ,hK,hG,hC⟩:=hH;rw[hDq] at hC;simp only at hC;obtain⟨x0,x1,x2,x3,x4,x5,x6,x7,x8,x9,x10,xf⟩:=aAf hC;refine .inr (.inl ⟨_,rfl,by simp,(by simp[execOp,go_sem,e62,e61,x1,xf]; rfl),?_⟩);have hK2:KeepP pb W (W3.setCell ⟨w3.heap.size+1,1,none⟩ (.string (bs (aAn t.tx)))):=hK.set (by omega) _ _;refine⟨hP.kept hK2 ((Below.heap_setCell _ _ _ _ (by show pb≠w3.heap.size+1; omega)).trans hQ.cell) hQ.le,hK2,hG.set (.inr rfl) _ _,?_⟩
             have:=Go.heap_setCell_same W3 (w3.heap.size+1) 1 _ _ (.string (bs (aAn t.tx))) hC
             simpa[aEi] using this
          case rdone =>
           intro DD r aa W4 hall hA hH;have ha:=hA.eq (goodR.apart (by kernel_rfl)) hall;simp only[aCS,Act.put,List.setIfInBounds_toArray,List.set_cons_zero,List.set_cons_succ] at ha;subst ha;obtain⟨hQ,hKq,hGq,hC⟩:=hH;rw[hall 13 (by decide)] at hC;simp only at hC;clear hA hall;have hz4:=hGq.size;have hb4:W4.heap[W.heap.size]? = some (.cells z11 26 (0,0)):=hGq.keepLt hbd (by omega);gi_wp2;obtain⟨y0,y1,y2,y3,y4,y5,y6,y7,y8,y9,y10,_⟩:=aAf hC;have c1:=hQ.c1;have fz:=hQ.fz 1;have hw:IntKind.wrap .i64 ((m6:Int)+1)=(m6:Int)+1:=i64_in _ (by omega);by_cases hty:tyB (aAn t.tx)=true
           · have hs:aAn t.tx=[105,110,116]∨aAn t.tx=[116,101,120,116]∨aAn t.tx=[98,108,111,98]:=by
              unfold tyB at hty;simpa[or_assoc] using hty
             have hRe:R=(aAB l 4 [41] (m6+1)).bind fun _ q=>.ok (.mk 12 (aAn t.tx) nul [] [] 0 false false [(.mk k op (v0,v1,v2) tb nm sl nt ds args)]) q:=by
              rw[HRe.out];simp only[PR.bind,hm2,hr,hm6];rw[←HT.out,hkk,hty];rfl
             have HRe:=Lib.hid hRe;clear hRe;obtain⟨hPn,hkn⟩:=hQ.next hlt (z:=(m6:Int)+1) (by omega);obtain⟨Wn,hWn⟩ : ∃ Wn,Wn=W4.setCell ⟨pb,1,none⟩ (.int .i64 ((m6:Int)+1)):=⟨_,rfl⟩;rw[←hWn] at hPn hkn;have hKn:=hKq.trans hkn;have hbn:Wn.heap[W.heap.size]? = some (.cells z11 26 (0,0)):=(hkn.heap _ (Array.getElem?_eq_some_iff.1 hb4).1 (by omega)).trans hb4;have hn6:=(hkn.heap _ (Array.getElem?_eq_some_iff.1 hC).1 (by omega)).trans hC;have hzn:=hkn.size
             have fs:(((bs (aAn t.tx)).toList==[105,110,116])=true)∨(((bs (aAn t.tx)).toList==[105,110,116])=false∧((bs (aAn t.tx)).toList==[116,101,120,116])=true)∨(((bs (aAn t.tx)).toList==[105,110,116])=false∧((bs (aAn t.tx)).toList==[116,101,120,116])=false∧((bs (aAn t.tx)).toList==[98,108,111,98])=true):=by
              rw[aAh];rcases hs with h | h | h <;> rw[h] <;> decide
             clear hs hty;have hM:=aAK hPn 4 [41];refine aH4 fs (fun f0=>?_) (fun f0 f1=>?_) (fun f0 f1 f2=>?_)
             all_goals
              have hM:=aAK hPn 4 [41];go_wp2_with fail;rw[←hWn];clear hWn
              cases hm7:aAB l 4 [41] (m6+1) with
              | out =>
               unfold aAB at hm7;split at hm7 <;> cases hm7
              | stop q =>
               rw[hm7] at hM;refine Calls.mono hM ?_;rintro e w7 ⟨rfl,hk7⟩;refine⟨rfl,?_⟩;rw[HRe.out];simp only[PR.bind,hm7];exact⟨rfl,hKn.trans hk7⟩
              | ok u m7 =>
               rw[hm7] at hM;refine Calls.mono hM ?_;rintro e w7 ⟨⟨v,rfl,hv⟩,hk7,hP7⟩;subst hv;have hb7:=aAd hk7 hbn (by omega);have hz7:=hk7.size;have hK7:=hKn.trans hk7;have hn7:=aAd hk7 hn6 (by omega);have hGx:KeepG (fun b=>b=pb∨b=w3.heap.size+1) W5 w7:=((hk6.g (.inl rfl)).below hBd).trans ((hGq.trans (hkn.g (.inl rfl))).trans (hk7.g (.inl rfl)))
               have hg:GX (fun b=>b≤W.heap.size) (.mk 12 (aAn t.tx) (0,0,[]) [] [] 0 false false [(.mk k op (v0,v1,v2) tb nm sl nt ds args)]) (.agg (xA 12 (aAn t.tx) 0 0 [] [] [] 0 false false (.slice (some ⟨w3.heap.size,0,none⟩) 1 1))) w7 :=
                GX.mk' (hcv.step (hGx.stays (fun b hb=>hb.elim (fun e=>.inl (by omega)) .inr) (fun b hb=>.inl (.inl (by omega)))))
               obtain⟨z0,z1,z2,z3,z4,z5,z6,z7,z8,z9,z10,_⟩:=aAf hn7;obtain⟨p0,p1,p2,p3,p4,p5,p6,p7,p8,p9,p10,pf⟩:=aAf hb7;go_wp2_with fail
               exact aAF hb7 (fun _ y0 y1 y2 y3 y4 y5 y6 y7 y8 y9 y10=>by simp[results,Tryz.results154,go_sem,y0,y1,y2,y3,y4,y5,y6,y7,y8,y9,y10]) rfl hP (hK7) hP7 (hg) (by
                rw[HRe.out];simp only[PR.bind,hm7]
                try rfl)
           · have f0:((bs (aAn t.tx)).toList==[105,110,116])=false:=by rw[aAh]; unfold tyB at hty; cases h:aAn t.tx==[105,110,116] <;> simp_all
             have f1:((bs (aAn t.tx)).toList==[116,101,120,116])=false:=by rw[aAh]; unfold tyB at hty; cases h:aAn t.tx==[116,101,120,116] <;> simp_all
             have f2:((bs (aAn t.tx)).toList==[98,108,111,98])=false:=by rw[aAh]; unfold tyB at hty; cases h:aAn t.tx==[98,108,111,98] <;> simp_all
             go_wp2_with fail;refine Calls.mono (aBB hQ) ?_;rintro e w12 ⟨rfl,rfl⟩;refine⟨rfl,?_⟩;rw[HRe.out];simp only[PR.bind,hm2,hr,hm6];rw[if_neg (by rw[←HT.out]; simp[hty])];exact⟨rfl,hKq⟩
        · have g2:(t.kd==2)=false:=by rw[e2] at hk; simpa using hk
          have g1:(t.kd==1)=false:=by rw[e1] at hk1; simpa using hk1
          clear e1 e2;go_wp2_with fail
          go_wp2_with (first | ((with_reducible refine aAP ?_); go_quiet (fail)))
          obtain⟨Wd,hWd⟩ : ∃ Wd,Wd=w6.drewN nq:=⟨_,rfl⟩;rw[←hWd]
          have hBd:Below w6.heap.size w6 Wd:=by rw[hWd]; exact aBd _ _
          refine Calls.mono (aBB (hP6.below hBd)) ?_;rintro e w12 ⟨rfl,rfl⟩;refine⟨rfl,?_⟩;rw[HRe.out];simp only[PR.bind,hm2,hr,hm6];rw[if_neg (by simp[hk,hk1])];exact⟨rfl,hK6.trans (aAo hBd)⟩
    · have hlti : ¬ (m6:Int)<(l.length:Int):=by omega
      have hk : ¬ aBg l 2 m6=true:=by unfold aBg; simp[hlt]
      have hk1 : ¬ aBg l 1 m6=true:=by unfold aBg; simp[hlt]
      go_wp2_with fail
      go_wp2_with (first | ((with_reducible refine aAP ?_); go_quiet (fail)))
      obtain⟨Wd,hWd⟩ : ∃ Wd,Wd=w6.drewN nq:=⟨_,rfl⟩;rw[←hWd]
      have hBd:Below w6.heap.size w6 Wd:=by rw[hWd]; exact aBd _ _
      refine Calls.mono (aBB (hP6.below hBd)) ?_;rintro e w12 ⟨rfl,rfl⟩;refine⟨rfl,?_⟩;rw[HRe.out];simp only[PR.bind,hm2,hr,hm6];rw[if_neg (by simp[hk,hk1])];exact⟨rfl,hK6.trans (aAo hBd)⟩
end
end
end Go.Proofs.YtcdeimjlgpfjiaaGreatDoor
