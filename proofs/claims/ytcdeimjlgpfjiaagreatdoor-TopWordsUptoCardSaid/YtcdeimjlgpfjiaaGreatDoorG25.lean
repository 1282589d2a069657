/- The parser's comparisons. Condition: what its parts come to. -/
import Derived.Test.YtcdeimjlgpfjiaaGreatDoorG23
import Derived.Test.YtcdeimjlgpfjiaaGreatDoorG21
import Derived.Deep.CutRange
set_option linter.unusedSimpArgs false
set_option linter.unusedVariables false
namespace Go.Proofs.YtcdeimjlgpfjiaaGreatDoor
section
open Go.RowKit Go.IntWalk
attribute [local go_sem] Oper.semAt_some
section
variable {l:List Tok} {pb:Nat} {la:Option Addr} {lc:Nat}
def aBJ (l:List Tok) (i:Nat):Bool:=isP l i 2 [110,111,116]&&(isP l (i+1) 2 [105,110]||isP l (i+1) 2 [98,101,116,119,101,101,110]||isP l (i+1) 2 [108,105,107,101])
def aFn (l:List Tok) (sm ex:Nat→PR Xp) (nt:Bool) (e:Xp) (i:Nat):PR Xp :=
 if isP l i 2 [105,110]=true then (aAB l 4 [40] (i+1)).bind fun _ j=>(aCw l ex j).bind fun L k=>.ok (.mk 6 [] nul [] [] 0 nt false (e::L)) k
 else if isP l i 2 [98,101,116,119,101,101,110]=true then (sm (i+1)).bind fun b j=>(aAB l 2 [97,110,100] j).bind fun _ k=>(sm k).bind fun c m=>.ok (.mk 7 [] nul [] [] 0 nt false [e,b,c]) m
 else if isP l i 2 [108,105,107,101]=true then (sm (i+1)).bind fun b j=>.ok (.mk 8 [] nul [] [] 0 nt false [e,b]) j
 else .ok e i
def aJv (l:List Tok) (sm ex:Nat→PR Xp) (e:Xp) (i:Nat):PR Xp:=match oneP l 4 i [[61],[60,62],[60],[60,61],[62],[62,61]] with
 | some op=>(sm (i+1)).bind fun b j=>.ok (.mk 4 op nul [] [] 0 false false [e,b]) j
 | none=>if isP l i 2 [105,115]=true then (sm (if isP l (i+1) 2 [110,111,116]=true then i+2 else i+1)).bind fun b j=>.ok (.mk 5 [] nul [] [] 0 (isP l (i+1) 2 [110,111,116]) false [e,b]) j
  else aFn l sm ex (aBJ l i) e (nx i (aBJ l i))
theorem aGq {l:List Tok} {sm ex:Nat→PR Xp} {i:Nat}:aLt l sm ex i=(sm i).bind (aJv l sm ex):=rfl
theorem aEd {l:List Tok} {sm ex:Nat→PR Xp} {e:Xp} {i:Nat} {op:List UInt8} (h:oneP l 4 i [[61],[60,62],[60],[60,61],[62],[62,61]]=some op):aJv l sm ex e i=(sm (i+1)).bind fun b j=>.ok (.mk 4 op nul [] [] 0 false false ([e]++[b])) j:=by
 unfold aJv; rw[h]; rfl
theorem aGs {l:List Tok} {sm ex:Nat→PR Xp} {e:Xp} {i:Nat} (h:oneP l 4 i [[61],[60,62],[60],[60,61],[62],[62,61]]=none) (h2:isP l i 2 [105,115]=true):aJv l sm ex e i=(sm (nx (i+1) (isP l (i+1) 2 [110,111,116]))).bind fun b j=>.ok (.mk 5 [] nul [] [] 0 (isP l (i+1) 2 [110,111,116]) false ([e]++[b])) j:=by
 unfold aJv; rw[h]; simp only[h2,if_true]; rfl
theorem aE2 {l:List Tok} {sm ex:Nat→PR Xp} {e:Xp} {i:Nat} (h:oneP l 4 i [[61],[60,62],[60],[60,61],[62],[62,61]]=none) (h2:isP l i 2 [105,115]=false):aJv l sm ex e i=aFn l sm ex (aBJ l i) e (nx i (aBJ l i)):=by
 unfold aJv; rw[h]; simp[h2]
theorem aQP {l:List Tok} {sm ex:Nat→PR Xp} {nt:Bool} {e:Xp} {i:Nat} (h:isP l i 2 [105,110]=true):aFn l sm ex nt e i=(aAB l 4 [40] (i+1)).bind fun _ j=>(aCw l ex j).bind fun L k=>.ok (.mk 6 [] nul [] [] 0 nt false (e::L)) k:=by
 unfold aFn; simp[h]
theorem aRJ {l:List Tok} {sm ex:Nat→PR Xp} {nt:Bool} {e:Xp} {i:Nat} (h:isP l i 2 [105,110]=false) (h2:isP l i 2 [98,101,116,119,101,101,110]=true):aFn l sm ex nt e i=(sm (i+1)).bind fun b j=>(aAB l 2 [97,110,100] j).bind fun _ k=>(sm k).bind fun c m=>.ok (.mk 7 [] nul [] [] 0 nt false ([e,b]++[c])) m:=by
 unfold aFn; simp[h,h2]
theorem aSn {l:List Tok} {sm ex:Nat→PR Xp} {nt:Bool} {e:Xp} {i:Nat} (h:isP l i 2 [105,110]=false) (h2:isP l i 2 [98,101,116,119,101,101,110]=false) (h3:isP l i 2 [108,105,107,101]=true):aFn l sm ex nt e i=(sm (i+1)).bind fun b j=>.ok (.mk 8 [] nul [] [] 0 nt false ([e]++[b])) j:=by
 unfold aFn; simp[h,h2,h3]
theorem aQV {l:List Tok} {sm ex:Nat→PR Xp} {nt:Bool} {e:Xp} {i:Nat} (h:isP l i 2 [105,110]=false) (h2:isP l i 2 [98,101,116,119,101,101,110]=false) (h3:isP l i 2 [108,105,107,101]=false):aFn l sm ex nt e i = .ok e i:=by
 unfold aFn; simp[h,h2,h3]
set_option maxHeartbeats 16000000 in
set_option maxRecDepth 100000 in
theorem aLm {sm ex:Nat→PR Xp} (hsm:aAY l pb la lc 140 sm) (hex:aAY l pb la lc 37 ex) (hgt : ∀ i e j,ex i = .ok e j→i<j):aAY l pb la lc 131 (aLt l sm ex):=by
 intro W i hP hR;generalize hRR:aLt l sm ex i=R at hR ⊢;rw[aGq] at hRR;obtain⟨W1,hW1⟩ : ∃ W1,W1=W.alloc (.cells z11 26):=⟨_,rfl⟩
 have hK1:KeepP pb W W1:=by rw[hW1]; exact (KeepP.refl pb W).alloc _
 have hP1:PW l pb la lc W1 i:=by rw[hW1]; exact hP.alloc _
 have hz1:W1.heap.size=W.heap.size+1:=by rw[hW1]; simp
 have hpl:=hP.lt
 have hb1:W1.heap[W.heap.size]? = some (.cells z11 26 (0,0)):=by rw[hW1]; exact aAl _ _
 go_enter Tryz.func131,Tryz.ntmps131
 go_wp2_with fail;rw[←hW1];clear hW1;have hC:=hsm W1 i hP1
 cases hr:sm i with
 | out=>exact absurd (by rw[←hRR,hr]; rfl) hR
 | stop j =>
  rw[hr] at hC hRR;refine Calls.mono (hC (fun h=>by cases h)) ?_;rintro e w2 ⟨rfl,hk⟩;refine⟨rfl,?_⟩;rw[←hRR];exact⟨rfl,hK1.trans hk⟩
 | ok e j =>
  rw[hr] at hC hRR;refine Calls.mono (hC (fun h=>by cases h)) ?_;rintro e' w2 ⟨⟨v,rfl,hx⟩,hk2,hP2⟩;obtain⟨k,op,⟨v0,v1,v2⟩,tb,nm,sl,nt,ds,args⟩:=e;obtain⟨sa,sc,rfl,hs⟩:=hx.form;have hRR:R=aJv l sm ex (.mk k op (v0,v1,v2) tb nm sl nt ds args) j:=hRR.symm;have HRR:=Lib.hid hRR;clear hRR hr hC;have hb2:=aAd hk2 hb1 (by omega);have hz2:=hk2.size;have hK2:=hK1.trans hk2;obtain⟨W4,hW4,hk4,hP4,hb4,hn4,hz4⟩:=aAJ hP2 hb2 (xA k op v0 v1 v2 tb nm sl nt ds (.slice sa args.length sc)) 26;have hK4:=hK2.trans hk4;obtain⟨W5,hW5,hk5,hP5,hb5,hn5,hz5⟩:=aAJ hP4 hb4 #[.string ⟨#[61]⟩,.string ⟨#[60,62]⟩,.string ⟨#[60]⟩,.string ⟨#[60,61]⟩,.string ⟨#[62]⟩,.string ⟨#[62,61]⟩] 9;rw[hz4] at hn5;have hK5:=hK4.trans hk5;have hn5':=aAd hk5 hn4 (by omega);have ho:CVR W5 (fun b=>b=pb) (.vs (oc [[61],[60,62],[60],[60,61],[62],[62,61]])) (.slice (some ⟨w2.heap.size+1,0,none⟩) 6 6):=aEB (ops:=[[61],[60,62],[60],[60,61],[62],[62,61]]) hn5 (by omega) rfl;have hO:=aHa hP5 4 [[61],[60,62],[60],[60,61],[62],[62,61]] _ _ ho (by decide);clear hs;go_wp2_with fail;rw[←hW4,←hW5];clear hW4 hW5 ho
  cases ho1:oneP l 4 j [[61],[60,62],[60],[60,61],[62],[62,61]] with
  | some opf =>
   rw[ho1] at hO;simp only[Option.getD_some,Option.isSome_some] at hO;refine Calls.mono hO ?_;rintro e w6 ⟨rfl,hk6,hP6⟩;have hP6:PW l pb la lc w6 (j+1):=hP6;have hb6:=aAd hk6 hb5 (by omega);have hn6:=aAd hk6 hn5' (by omega);have hz6:=hk6.size;have hK6:=hK5.trans hk6;have hx6:=hx.keep (hk4.trans (hk5.trans hk6)) (X':=fun b=>b≤W.heap.size) (by show pb<W1.heap.size; omega) (fun b hb=>.inl (by show b<W1.heap.size; omega))
   have hes:CVRs w6 (fun b=>b≤W.heap.size) (List.flatMap Xp.cells [(.mk k op (v0,v1,v2) tb nm sl nt ds args)]) ((xA k op v0 v1 v2 tb nm sl nt ds (.slice sa args.length sc))).toList:=by
    rw[List.flatMap_cons,List.flatMap_nil,List.append_nil];exact hx6.cells
   have HRe:=Lib.hid (HRR.out.trans (aEd ho1));clear ho1 hx;go_wp2_with fail;have hRs:sm (j+1)≠.out:=fun h=>hR (by rw[HRe.out,h]; rfl);have hpl2:=hP6.lt;have hH0:CompPh l pb la lc w6 W.heap.size (fun sl=>#[.int .i64 4,.string (bs opf),.int .i64 0,.int .i64 0,.string ⟨#[]⟩,.string ⟨#[]⟩,.string ⟨#[]⟩,.int .i64 0,.bool false,.bool false,sl]) [(.mk k op (v0,v1,v2) tb nm sl nt ds args)] sm (j+1) (undef,undef) false false false w6.drew:=⟨KeepG.refl.drew,hb6,hP6.below (Below.refl _ _).drew,rfl⟩;rw[←wpIn_wide (n:=0)]
   refine aAt (by kernel_rfl) (fun _=>trivial) rfl (fun f args w R h=>callsIn_wide.2 h) (by kernel_rfl)
    (fun (r:Value×Value) q=>match q with | 0=>.string (bs opf) | 1=>.agg (xA k op v0 v1 v2 tb nm sl nt ds (.slice sa args.length sc)) | 2=>.pointer (some ⟨pb,0,none⟩) | 3=>r.1 | 4=>r.2 | 5=>.agg ((fun sl=>#[.int .i64 4,.string (bs opf),.int .i64 0,.int .i64 0,.string ⟨#[]⟩,.string ⟨#[]⟩,.string ⟨#[]⟩,.int .i64 0,.bool false,.bool false,sl]) r.2) | _=>undef)
    (fun r D w'=>CompPh l pb la lc w6 W.heap.size (fun sl=>#[.int .i64 4,.string (bs opf),.int .i64 0,.int .i64 0,.string ⟨#[]⟩,.string ⟨#[]⟩,.string ⟨#[]⟩,.int .i64 0,.bool false,.bool false,sl]) [(.mk k op (v0,v1,v2) tb nm sl nt ds args)] sm (j+1) r (D 3) (D 4) (D 6) w') (undef,undef) hH0 ?steps ?rdone
   case steps =>
    intro DD q o r aa W3 hop hDq hcl hdep hA hH;have hq:q<7:=(Array.getElem?_eq_some_iff.1 hop).1
    have:q=0∨q=1∨q=2∨q=3∨q=4∨q=5∨q=6:=by omega
    rcases this with rfl | rfl | rfl | rfl | rfl | rfl | rfl
    all_goals (simp only[List.getElem?_toArray,List.getElem?_cons_zero,List.getElem?_cons_succ,Option.some.injEq] at hop; subst hop)
    · have e4:=hA.keep 4 (by kernel_rfl);exact .inl (.inl ⟨r,W3,by simp,(by simp[execOp,go_sem,e4]),fun _ _=>rfl,hH⟩)
    · have e3:=hA.keep 3 (by kernel_rfl);have hld:=hH.1.keepLt hn6 (by omega);obtain⟨p0,p1,p2,p3,p4,p5,p6,p7,p8,p9,p10,_⟩:=aAf hld;exact .inl (.inl ⟨r,W3,by simp,(by simp[execOp,go_sem,e3,p0,p1,p2,p3,p4,p5,p6,p7,p8,p9,p10]),fun _ _=>rfl,hH⟩)
    · have e0:=hA.keep 0 (by kernel_rfl);exact .inl (.inl ⟨r,W3,by simp,(by simp[execOp,go_sem,e0]),fun _ _=>rfl,hH⟩)
    · have e20:=hA.was 2 20 rfl (hdep ⟨2,.data⟩ (by simp) rfl) (by simp);have n3:=hDq;have n4:=aAq hcl (k:=4) rfl (e:=⟨3,.data⟩) (by simp) rfl n3;have n5:=aAq hcl (k:=5) rfl (e:=⟨4,.data⟩) (by simp) rfl n4;have n6:=aAq hcl (k:=6) rfl (e:=⟨5,.data⟩) (by simp) rfl n5;rw[hDq,n4,n6] at hH;refine .inr (.inr ⟨140,#[.pointer (some ⟨pb,0,none⟩)],by simp,(by simp[execOp,go_sem,e20]),Calls.mono (CompPh.call hH hsm hRs (by omega) (by omega)) ?_⟩);rintro e w' (⟨v,rfl,hH'⟩ | ⟨q,hq,rfl,hk⟩)
      · refine .inl ⟨(v,r.2),rfl,fun t ht=>?_,?_⟩
        · match t,ht with
          | 0,_=>rfl
          | 1,_=>rfl
          | 2,_=>rfl
          | 3,h=>rw[hDq] at h; cases h
          | 4,_=>rfl
          | 5,_=>rfl
          | t+6,_=>rfl
        · show CompPh l pb la lc w6 W.heap.size (fun sl=>#[.int .i64 4,.string (bs opf),.int .i64 0,.int .i64 0,.string ⟨#[]⟩,.string ⟨#[]⟩,.string ⟨#[]⟩,.int .i64 0,.bool false,.bool false,sl]) [(.mk k op (v0,v1,v2) tb nm sl nt ds args)] sm (j+1) (v,r.2) true (DD 4) (DD 6) w';rw[n4,n6]; exact hH'
      · refine .inr ⟨_,rfl,hA.defers,?_⟩;rw[HRe.out,hq];exact⟨rfl,hk.p hK6 (fun b hb=>hb.elim .inl (fun e=>.inr (by omega)))⟩
    · have e19:=hA.was 1 19 rfl (hdep ⟨1,.data⟩ (by simp) rfl) (by simp);have e21:=hA.was 3 21 rfl (hdep ⟨3,.data⟩ (by simp) rfl) (by simp);have d3:=hdep ⟨3,.data⟩ (by simp) rfl;have n4:=hDq;have n5:=aAq hcl (k:=5) rfl (e:=⟨4,.data⟩) (by simp) rfl n4;have n6:=aAq hcl (k:=6) rfl (e:=⟨5,.data⟩) (by simp) rfl n5;rw[d3,hDq,n6] at hH;obtain⟨k',op',v0',v1',v2',tb',nm',sl',nt',ds',sa',len',sc',hr1⟩:=hH.form;have hsl:=hH.slice (by omega) (by omega) hes hr1 (B:=(xA k op v0 v1 v2 tb nm sl nt ds (.slice sa args.length sc))++(xA k' op' v0' v1' v2' tb' nm' sl' nt' ds' (.slice sa' len' sc'))) (by simp) (n:=2) rfl;obtain⟨r1,r2⟩:=r;simp only at hr1;subst hr1;refine .inl (.inl ⟨(.agg (xA k' op' v0' v1' v2' tb' nm' sl' nt' ds' (.slice sa' len' sc')),.slice (some ⟨W3.heap.size,0,none⟩) 2 2),W3.alloc (.cells ((xA k op v0 v1 v2 tb nm sl nt ds (.slice sa args.length sc))++(xA k' op' v0' v1' v2' tb' nm' sl' nt' ds' (.slice sa' len' sc'))) 26),by simp,(by simp[execOp,go_sem,e19,e21]),fun t ht=>?_,?_⟩)
      · match t,ht with
        | 0,_=>rfl
        | 1,_=>rfl
        | 2,_=>rfl
        | 3,_=>rfl
        | 4,h=>rw[hDq] at h; cases h
        | 5,h=>rw[n5] at h; cases h
        | t+6,_=>rfl
      · show CompPh l pb la lc w6 W.heap.size (fun sl=>#[.int .i64 4,.string (bs opf),.int .i64 0,.int .i64 0,.string ⟨#[]⟩,.string ⟨#[]⟩,.string ⟨#[]⟩,.int .i64 0,.bool false,.bool false,sl]) [(.mk k op (v0,v1,v2) tb nm sl nt ds args)] sm (j+1) _ (DD 3) true (DD 6) _;rw[d3,n6]; exact hsl
    · have e18:=hA.was 0 18 rfl (hdep ⟨0,.data⟩ (by simp) rfl) (by simp);have e22:=hA.was 4 22 rfl (hdep ⟨4,.data⟩ (by simp) rfl) (by simp);have d4:=hdep ⟨4,.data⟩ (by simp) rfl;have d3:=hcl 4 _ d4 rfl ⟨3,.data⟩ (by simp) rfl;have hH2:=hH;rw[d3,d4] at hH2;obtain⟨_,_,_,_,_,_,_,B,hr2⟩:=hH2;exact .inl (.inl ⟨r,W3,by simp,(by simp[execOp,go_sem,e18,e22,hr2]),fun _ _=>rfl,hH⟩)
    · have e2:=hA.keep 2 (by kernel_rfl);have e23:=hA.was 5 23 rfl (hdep ⟨5,.data⟩ (by simp) rfl) (by simp);have d5:=hdep ⟨5,.data⟩ (by simp) rfl;have d4:=hcl 5 _ d5 rfl ⟨4,.data⟩ (by simp) rfl;have d3:=hcl 4 _ d4 rfl ⟨3,.data⟩ (by simp) rfl;rw[d3,d4,hDq] at hH
      obtain⟨B,hr2⟩ : ∃ B,r.2 = .slice (some ⟨B,0,none⟩) 2 2:=by
       obtain⟨_,_,_,_,_,_,_,hB⟩:=hH;exact hB
      have h9:=hH.2.1;simp only at h9;obtain⟨p0,p1,p2,p3,p4,p5,p6,p7,p8,p9,p10,pf⟩:=aAf h9;have hst:=hH.store (by omega) (by omega) hP hK6 (Nat.le_refl _) hr2.symm;refine .inr (.inl ⟨_,rfl,by simp,(by simp[execOp,go_sem,e2,e23,hr2,p0,p1,p2,p3,p4,p5,p6,p7,p8,p9,p10,pf]; rfl),?_⟩);show CompPh l pb la lc w6 W.heap.size (fun sl=>#[.int .i64 4,.string (bs opf),.int .i64 0,.int .i64 0,.string ⟨#[]⟩,.string ⟨#[]⟩,.string ⟨#[]⟩,.int .i64 0,.bool false,.bool false,sl]) [(.mk k op (v0,v1,v2) tb nm sl nt ds args)] sm (j+1) r (DD 3) (DD 4) true _;rw[d3,d4]; exact hst
   case rdone =>
    intro DD r aa W4 hall hA hH;have ha:=hA.eq (goodR.apart (by kernel_rfl)) hall;simp only[aCS,Act.put,List.setIfInBounds_toArray,List.set_cons_zero,List.set_cons_succ] at ha;subst ha;rw[hall 3 (by decide),hall 4 (by decide),hall 6 (by decide)] at hH;obtain⟨hKg,h8,b,q,hq,hPq,hcv,B,hr2⟩:=hH;simp only at h8;clear hA hall;obtain⟨y0,y1,y2,y3,y4,y5,y6,y7,y8,y9,y10,_⟩:=aAf h8;have hKq:=hKg.p hK6 (fun b hb=>hb.elim .inl (fun e=>.inr (by omega)));gi_wp2;go_wp2_with fail;refine bodyPost_ret (v:=.agg ((fun sl=>#[.int .i64 4,.string (bs opf),.int .i64 0,.int .i64 0,.string ⟨#[]⟩,.string ⟨#[]⟩,.string ⟨#[]⟩,.int .i64 0,.bool false,.bool false,sl]) r.2)) (by simp[results,Tryz.results131,go_sem,y0,y1,y2,y3,y4,y5,y6,y7,y8,y9,y10]) rfl ?_;rw[HRe.out,hq];exact⟨⟨_,rfl,GX.mk' (hcv.mono fun b hb=>Nat.le_of_lt hb)⟩,hKq,hPq⟩
  | none =>
   rw[ho1] at hO;simp only[Option.getD_none,Option.isSome_none] at hO;refine Calls.mono hO ?_;rintro e w6 ⟨rfl,hk6,hP6⟩;have hP6:PW l pb la lc w6 j:=hP6;have hb6:=aAd hk6 hb5 (by omega);have hn6:=aAd hk6 hn5' (by omega);have hz6:=hk6.size;have hK6:=hK5.trans hk6;have hx6:=hx.keep (hk4.trans (hk5.trans hk6)) (X':=fun b=>b≤W.heap.size) (by show pb<W1.heap.size; omega) (fun b hb=>.inl (by show b<W1.heap.size; omega));have hT:=aA4 hP6 [105,115];obtain⟨b7,hb7⟩ : ∃ b,b=isP l (j) 2 [105,115]:=⟨_,rfl⟩;rw[←hb7] at hT;have HB7:=Lib.hid hb7;clear hb7;go_wp2_with fail;refine Calls.mono hT ?_;rintro e w7 ⟨rfl,hk7,hP7⟩;have hb7:=aAd hk7 hb6 (by omega);have hn7:=aAd hk7 hn6 (by omega);have hz7:=hk7.size;have hK7:=hK6.trans hk7;have hx7:=hx6.keep hk7 (by show pb≤W.heap.size; omega) (fun b hb=>.inl hb);clear hT
   cases b7 with
   | true =>
    have hP7:PW l pb la lc w7 (j+1):=hP7;have hT:=aA4 hP7 [110,111,116];obtain⟨b8,hb8⟩ : ∃ b,b=isP l (j+1) 2 [110,111,116]:=⟨_,rfl⟩;rw[←hb8] at hT;have HB8:=Lib.hid hb8;clear hb8;go_wp2_with fail;refine Calls.mono hT ?_;rintro e w8 ⟨rfl,hk8,hP8⟩;have hb8:=aAd hk8 hb7 (by omega);have hn8:=aAd hk8 hn7 (by omega);have hz8:=hk8.size;have hK8:=hK7.trans hk8;have hx8:=hx7.keep hk8 (by show pb≤W.heap.size; omega) (fun b hb=>.inl hb);clear hT
    have hes:CVRs w8 (fun b=>b≤W.heap.size) (List.flatMap Xp.cells [(.mk k op (v0,v1,v2) tb nm sl nt ds args)]) ((xA k op v0 v1 v2 tb nm sl nt ds (.slice sa args.length sc))).toList:=by
     rw[List.flatMap_cons,List.flatMap_nil,List.append_nil];exact hx8.cells
    have HRe:=Lib.hid (HRR.out.trans (aGs ho1 HB7.out.symm));rw[←HB8.out] at HRe;clear ho1 hx;go_wp2_with fail;have hRs:sm (nx (j+1) b8)≠.out:=fun h=>hR (by rw[HRe.out,h]; rfl);have hpl2:=hP8.lt;have hH0:CompPh l pb la lc w8 W.heap.size (fun sl=>#[.int .i64 5,.string ⟨#[]⟩,.int .i64 0,.int .i64 0,.string ⟨#[]⟩,.string ⟨#[]⟩,.string ⟨#[]⟩,.int .i64 0,.bool b8,.bool false,sl]) [(.mk k op (v0,v1,v2) tb nm sl nt ds args)] sm (nx (j+1) b8) (undef,undef) false false false w8.drew:=⟨KeepG.refl.drew,hb8,hP8.below (Below.refl _ _).drew,rfl⟩;rw[←wpIn_wide (n:=0)]
    refine aAt (by kernel_rfl) (fun _=>trivial) rfl (fun f args w R h=>callsIn_wide.2 h) (by kernel_rfl)
     (fun (r:Value×Value) q=>match q with | 0=>.bool b8 | 1=>.agg (xA k op v0 v1 v2 tb nm sl nt ds (.slice sa args.length sc)) | 2=>.pointer (some ⟨pb,0,none⟩) | 3=>r.1 | 4=>r.2 | 5=>.agg ((fun sl=>#[.int .i64 5,.string ⟨#[]⟩,.int .i64 0,.int .i64 0,.string ⟨#[]⟩,.string ⟨#[]⟩,.string ⟨#[]⟩,.int .i64 0,.bool b8,.bool false,sl]) r.2) | _=>undef)
     (fun r D w'=>CompPh l pb la lc w8 W.heap.size (fun sl=>#[.int .i64 5,.string ⟨#[]⟩,.int .i64 0,.int .i64 0,.string ⟨#[]⟩,.string ⟨#[]⟩,.string ⟨#[]⟩,.int .i64 0,.bool b8,.bool false,sl]) [(.mk k op (v0,v1,v2) tb nm sl nt ds args)] sm (nx (j+1) b8) r (D 3) (D 4) (D 6) w') (undef,undef) hH0 ?steps ?rdone
    case steps =>
     intro DD q o r aa W3 hop hDq hcl hdep hA hH;have hq:q<7:=(Array.getElem?_eq_some_iff.1 hop).1
     have:q=0∨q=1∨q=2∨q=3∨q=4∨q=5∨q=6:=by omega
     rcases this with rfl | rfl | rfl | rfl | rfl | rfl | rfl
     all_goals (simp only[List.getElem?_toArray,List.getElem?_cons_zero,List.getElem?_cons_succ,Option.some.injEq] at hop; subst hop)
     · have e6:=hA.keep 6 (by kernel_rfl);exact .inl (.inl ⟨r,W3,by simp,(by simp[execOp,go_sem,e6]),fun _ _=>rfl,hH⟩)
     · have e3:=hA.keep 3 (by kernel_rfl);have hld:=hH.1.keepLt hn8 (by omega);obtain⟨p0,p1,p2,p3,p4,p5,p6,p7,p8,p9,p10,_⟩:=aAf hld;exact .inl (.inl ⟨r,W3,by simp,(by simp[execOp,go_sem,e3,p0,p1,p2,p3,p4,p5,p6,p7,p8,p9,p10]),fun _ _=>rfl,hH⟩)
     · have e0:=hA.keep 0 (by kernel_rfl);exact .inl (.inl ⟨r,W3,by simp,(by simp[execOp,go_sem,e0]),fun _ _=>rfl,hH⟩)
     · have e30:=hA.was 2 30 rfl (hdep ⟨2,.data⟩ (by simp) rfl) (by simp);have n3:=hDq;have n4:=aAq hcl (k:=4) rfl (e:=⟨3,.data⟩) (by simp) rfl n3;have n5:=aAq hcl (k:=5) rfl (e:=⟨4,.data⟩) (by simp) rfl n4;have n6:=aAq hcl (k:=6) rfl (e:=⟨5,.data⟩) (by simp) rfl n5;rw[hDq,n4,n6] at hH;refine .inr (.inr ⟨140,#[.pointer (some ⟨pb,0,none⟩)],by simp,(by simp[execOp,go_sem,e30]),Calls.mono (CompPh.call hH hsm hRs (by omega) (by omega)) ?_⟩);rintro e w' (⟨v,rfl,hH'⟩ | ⟨q,hq,rfl,hk⟩)
       · refine .inl ⟨(v,r.2),rfl,fun t ht=>?_,?_⟩
         · match t,ht with
           | 0,_=>rfl
           | 1,_=>rfl
           | 2,_=>rfl
           | 3,h=>rw[hDq] at h; cases h
           | 4,_=>rfl
           | 5,_=>rfl
           | t+6,_=>rfl
         · show CompPh l pb la lc w8 W.heap.size (fun sl=>#[.int .i64 5,.string ⟨#[]⟩,.int .i64 0,.int .i64 0,.string ⟨#[]⟩,.string ⟨#[]⟩,.string ⟨#[]⟩,.int .i64 0,.bool b8,.bool false,sl]) [(.mk k op (v0,v1,v2) tb nm sl nt ds args)] sm (nx (j+1) b8) (v,r.2) true (DD 4) (DD 6) w';rw[n4,n6]; exact hH'
       · refine .inr ⟨_,rfl,hA.defers,?_⟩;rw[HRe.out,hq];exact⟨rfl,hk.p hK8 (fun b hb=>hb.elim .inl (fun e=>.inr (by omega)))⟩
     · have e29:=hA.was 1 29 rfl (hdep ⟨1,.data⟩ (by simp) rfl) (by simp);have e31:=hA.was 3 31 rfl (hdep ⟨3,.data⟩ (by simp) rfl) (by simp);have d3:=hdep ⟨3,.data⟩ (by simp) rfl;have n4:=hDq;have n5:=aAq hcl (k:=5) rfl (e:=⟨4,.data⟩) (by simp) rfl n4;have n6:=aAq hcl (k:=6) rfl (e:=⟨5,.data⟩) (by simp) rfl n5;rw[d3,hDq,n6] at hH;obtain⟨k',op',v0',v1',v2',tb',nm',sl',nt',ds',sa',len',sc',hr1⟩:=hH.form;have hsl:=hH.slice (by omega) (by omega) hes hr1 (B:=(xA k op v0 v1 v2 tb nm sl nt ds (.slice sa args.length sc))++(xA k' op' v0' v1' v2' tb' nm' sl' nt' ds' (.slice sa' len' sc'))) (by simp) (n:=2) rfl;obtain⟨r1,r2⟩:=r;simp only at hr1;subst hr1;refine .inl (.inl ⟨(.agg (xA k' op' v0' v1' v2' tb' nm' sl' nt' ds' (.slice sa' len' sc')),.slice (some ⟨W3.heap.size,0,none⟩) 2 2),W3.alloc (.cells ((xA k op v0 v1 v2 tb nm sl nt ds (.slice sa args.length sc))++(xA k' op' v0' v1' v2' tb' nm' sl' nt' ds' (.slice sa' len' sc'))) 26),by simp,(by simp[execOp,go_sem,e29,e31]),fun t ht=>?_,?_⟩)
       · match t,ht with
         | 0,_=>rfl
         | 1,_=>rfl
         | 2,_=>rfl
         | 3,_=>rfl
         | 4,h=>rw[hDq] at h; cases h
         | 5,h=>rw[n5] at h; cases h
         | t+6,_=>rfl
       · show CompPh l pb la lc w8 W.heap.size (fun sl=>#[.int .i64 5,.string ⟨#[]⟩,.int .i64 0,.int .i64 0,.string ⟨#[]⟩,.string ⟨#[]⟩,.string ⟨#[]⟩,.int .i64 0,.bool b8,.bool false,sl]) [(.mk k op (v0,v1,v2) tb nm sl nt ds args)] sm (nx (j+1) b8) _ (DD 3) true (DD 6) _;rw[d3,n6]; exact hsl
     · have e28:=hA.was 0 28 rfl (hdep ⟨0,.data⟩ (by simp) rfl) (by simp);have e32:=hA.was 4 32 rfl (hdep ⟨4,.data⟩ (by simp) rfl) (by simp);have d4:=hdep ⟨4,.data⟩ (by simp) rfl;have d3:=hcl 4 _ d4 rfl ⟨3,.data⟩ (by simp) rfl;have hH2:=hH;rw[d3,d4] at hH2;obtain⟨_,_,_,_,_,_,_,B,hr2⟩:=hH2;exact .inl (.inl ⟨r,W3,by simp,(by simp[execOp,go_sem,e28,e32,hr2]),fun _ _=>rfl,hH⟩)
     · have e2:=hA.keep 2 (by kernel_rfl);have e33:=hA.was 5 33 rfl (hdep ⟨5,.data⟩ (by simp) rfl) (by simp);have d5:=hdep ⟨5,.data⟩ (by simp) rfl;have d4:=hcl 5 _ d5 rfl ⟨4,.data⟩ (by simp) rfl;have d3:=hcl 4 _ d4 rfl ⟨3,.data⟩ (by simp) rfl;rw[d3,d4,hDq] at hH
       obtain⟨B,hr2⟩ : ∃ B,r.2 = .slice (some ⟨B,0,none⟩) 2 2:=by
        obtain⟨_,_,_,_,_,_,_,hB⟩:=hH;exact hB
       have h9:=hH.2.1;simp only at h9;obtain⟨p0,p1,p2,p3,p4,p5,p6,p7,p8,p9,p10,pf⟩:=aAf h9;have hst:=hH.store (by omega) (by omega) hP hK8 (Nat.le_refl _) hr2.symm;refine .inr (.inl ⟨_,rfl,by simp,(by simp[execOp,go_sem,e2,e33,hr2,p0,p1,p2,p3,p4,p5,p6,p7,p8,p9,p10,pf]; rfl),?_⟩);show CompPh l pb la lc w8 W.heap.size (fun sl=>#[.int .i64 5,.string ⟨#[]⟩,.int .i64 0,.int .i64 0,.string ⟨#[]⟩,.string ⟨#[]⟩,.string ⟨#[]⟩,.int .i64 0,.bool b8,.bool false,sl]) [(.mk k op (v0,v1,v2) tb nm sl nt ds args)] sm (nx (j+1) b8) r (DD 3) (DD 4) true _;rw[d3,d4]; exact hst
    case rdone =>
     intro DD r aa W4 hall hA hH;have ha:=hA.eq (goodR.apart (by kernel_rfl)) hall;simp only[aCS,Act.put,List.setIfInBounds_toArray,List.set_cons_zero,List.set_cons_succ] at ha;subst ha;rw[hall 3 (by decide),hall 4 (by decide),hall 6 (by decide)] at hH;obtain⟨hKg,h8,b,q,hq,hPq,hcv,B,hr2⟩:=hH;simp only at h8;clear hA hall;obtain⟨y0,y1,y2,y3,y4,y5,y6,y7,y8,y9,y10,_⟩:=aAf h8;have hKq:=hKg.p hK8 (fun b hb=>hb.elim .inl (fun e=>.inr (by omega)));gi_wp2;go_wp2_with fail;refine bodyPost_ret (v:=.agg ((fun sl=>#[.int .i64 5,.string ⟨#[]⟩,.int .i64 0,.int .i64 0,.string ⟨#[]⟩,.string ⟨#[]⟩,.string ⟨#[]⟩,.int .i64 0,.bool b8,.bool false,sl]) r.2)) (by simp[results,Tryz.results131,go_sem,y0,y1,y2,y3,y4,y5,y6,y7,y8,y9,y10]) rfl ?_;rw[HRe.out,hq];exact⟨⟨_,rfl,GX.mk' (hcv.mono fun b hb=>Nat.le_of_lt hb)⟩,hKq,hPq⟩
   | false =>
    have hP7:PW l pb la lc w7 j:=hP7;have hI0:=aEa hP7 0 (by omega) 2 [110,111,116];have hI1:=aEa hP7 1 (by omega) 2 [105,110];have hI2:=aEa hP7 1 (by omega) 2 [98,101,116,119,101,101,110];have hI3:=aEa hP7 1 (by omega) 2 [108,105,107,101];rw[Nat.add_zero] at hI0;have HRR:=Lib.hid (HRR.out.trans (aE2 ho1 HB7.out.symm));obtain⟨c,hc⟩ : ∃ c,c=aBJ l j:=⟨_,rfl⟩;rw[←hc] at HRR;unfold aBJ at hc
    have hcj:c=true→j<l.length:=fun h=>by
     rw[h] at hc;cases h0:isP l j 2 [110,111,116]
     · rw[h0] at hc; cases hc
     · exact aA3 h0
    generalize isP l j 2 [110,111,116]=i0 at hI0 hc;generalize isP l (j+1) 2 [105,110]=i1 at hI1 hc;generalize isP l (j+1) 2 [98,101,116,119,101,101,110]=i2 at hI2 hc;generalize isP l (j+1) 2 [108,105,107,101]=i3 at hI3 hc;have HC:=Lib.hid hc;clear hc ho1 hx
    go_upto_region 8 with fail
    go_cut [7] from 34 to 47 (fun x wx=>x = .bool c∧wx=w7)
    case first =>
     go_wp2_with fail;refine Calls.mono hI0 ?_;rintro e _ ⟨rfl,rfl⟩
     cases i0 with
     | false=>(go_wp2_with fail; go_meet; exact⟨by rw[HC.out]; simp,rfl⟩)
     | true =>
      go_wp2_with fail;refine Calls.mono hI1 ?_;rintro e _ ⟨rfl,rfl⟩
      cases i1 with
      | true=>(go_wp2_with fail; go_meet; exact⟨by rw[HC.out]; simp,rfl⟩)
      | false =>
       go_wp2_with fail;refine Calls.mono hI2 ?_;rintro e _ ⟨rfl,rfl⟩
       cases i2 with
       | true=>(go_wp2_with fail; go_meet; exact⟨by rw[HC.out]; simp,rfl⟩)
       | false =>
        go_wp2_with fail;refine Calls.mono hI3 ?_;rintro e _ ⟨rfl,rfl⟩
        (go_wp2_with fail; go_meet; exact⟨by rw[HC.out]; simp,rfl⟩)
    case rest =>
     obtain⟨rfl,hw7⟩:=hcut;replace hw7:=hw7.symm;subst hw7
     go_upto_if 48 with fail
     go_cut [] from 49 to 55 (fun wx=>PW l pb la lc wx (nx j c)∧KeepP pb w7 wx)
     case first =>
      cases c with
      | true =>
       have hlt:=hcj rfl;have c1:=hP7.c1;have fz:=hP7.fz 1;have hle:=hP7.le;have hbig:=hP7.big;have hw:IntKind.wrap .i64 ((j:Int)+1)=(j:Int)+1:=i64_in _ (by omega);obtain⟨hP8,hk8⟩:=hP7.next hlt (z:=(j:Int)+1) (by omega);obtain⟨w8,hw8⟩ : ∃ w8,w8=w7.setCell ⟨pb,1,none⟩ (.int .i64 ((j:Int)+1)):=⟨_,rfl⟩;rw[←hw8] at hP8 hk8;go_wp2_with fail;rw[←hw8]
       go_meet
       exact⟨hP8,hk8⟩
      | false =>
       go_wp2_with fail
       go_meet
       exact⟨hP7,KeepP.refl _ _⟩
     case rest =>
      obtain⟨hP8,hk8⟩:=hcut;obtain⟨m,hm⟩ : ∃ m,m=nx j c:=⟨_,rfl⟩;rw[←hm] at HRR hP8;clear hm;have hb8:=aAd hk8 hb7 (by omega);have hn8:=aAd hk8 hn7 (by omega);have hz8:=hk8.size;have hK8:=hK7.trans hk8;have hx8:=hx7.keep hk8 (by show pb≤W.heap.size; omega) (fun b hb=>.inl hb);have hT:=aA4 hP8 [105,110];obtain⟨b11,hb11⟩ : ∃ b,b=isP l (m) 2 [105,110]:=⟨_,rfl⟩;rw[←hb11] at hT;have HB11:=Lib.hid hb11;clear hb11;go_wp2_with fail;refine Calls.mono hT ?_;rintro e w11 ⟨rfl,hk11,hP11⟩;have hb11:=aAd hk11 hb8 (by omega);have hn11:=aAd hk11 hn8 (by omega);have hz11:=hk11.size;have hK11:=hK8.trans hk11;have hx11:=hx8.keep hk11 (by show pb≤W.heap.size; omega) (fun b hb=>.inl hb);clear hT
      cases b11 with
      | true =>
       have hP11:PW l pb la lc w11 (m+1):=hP11;have HRe:=Lib.hid (HRR.out.trans (aQP HB11.out.symm));have hM:=aAK hP11 4 [40];go_wp2_with fail
       cases hm12:aAB l 4 [40] (m+1) with
       | out =>
        unfold aAB at hm12;split at hm12 <;> cases hm12
       | stop q =>
        rw[hm12] at hM;refine Calls.mono hM ?_;rintro e w12 ⟨rfl,hk12⟩;refine⟨rfl,?_⟩;rw[HRe.out];simp only[PR.bind,hm12];exact⟨rfl,hK11.trans hk12⟩
       | ok u m12 =>
        rw[hm12] at hM;refine Calls.mono hM ?_;rintro e w12 ⟨⟨v,rfl,hv⟩,hk12,hP12⟩;subst hv;have hb12:=aAd hk12 hb11 (by omega);have hn12:=aAd hk12 hn11 (by omega);have hz12:=hk12.size;have hK12:=hK11.trans hk12;have hx12:=hx11.keep hk12 (by show pb≤W.heap.size; omega) (fun b hb=>.inl hb)
        have HRe2:R=(aCw l ex m12).bind fun L k'=>.ok (.mk 6 [] nul [] [] 0 c false ((.mk k op (v0,v1,v2) tb nm sl nt ds args)::L)) k':=by
         rw[HRe.out];simp only[PR.bind,hm12]
        have HRe:=Lib.hid HRe2;clear HRe2;go_wp2_with fail;have hRs:aCw l ex (m12)≠.out:=fun h=>hR (by rw[HRe.out,h]; rfl);have hpl2:=hP12.lt;have hH0:InPh l pb la lc w12 W.heap.size (fun sl=>#[.int .i64 6,.string ⟨#[]⟩,.int .i64 0,.int .i64 0,.string ⟨#[]⟩,.string ⟨#[]⟩,.string ⟨#[]⟩,.int .i64 0,.bool c,.bool false,sl]) (.mk k op (v0,v1,v2) tb nm sl nt ds args) ex (m12) (undef,undef,undef) false false false false w12.drew:=⟨KeepG.refl.drew,hb12,fun h=>(by cases h),hP12.below (Below.refl _ _).drew⟩;rw[←wpIn_wide (n:=0)]
        refine aAt (by kernel_rfl) (fun _=>trivial) rfl (fun f args w R h=>callsIn_wide.2 h) (by kernel_rfl)
         (fun (r:Value×Value×Value) q=>match q with | 0=>.bool c | 1=>.agg (xA k op v0 v1 v2 tb nm sl nt ds (.slice sa args.length sc)) | 2=>r.1 | 3=>.pointer (some ⟨pb,0,none⟩) | 4=>r.2.1 | 5=>r.2.2 | 6=>.agg ((fun sl=>#[.int .i64 6,.string ⟨#[]⟩,.int .i64 0,.int .i64 0,.string ⟨#[]⟩,.string ⟨#[]⟩,.string ⟨#[]⟩,.int .i64 0,.bool c,.bool false,sl]) r.2.2) | _=>undef)
         (fun r D w'=>InPh l pb la lc w12 W.heap.size (fun sl=>#[.int .i64 6,.string ⟨#[]⟩,.int .i64 0,.int .i64 0,.string ⟨#[]⟩,.string ⟨#[]⟩,.string ⟨#[]⟩,.int .i64 0,.bool c,.bool false,sl]) (.mk k op (v0,v1,v2) tb nm sl nt ds args) ex (m12) r (D 2) (D 4) (D 5) (D 7) w') (undef,undef,undef) hH0 ?steps ?rdone
        case steps =>
         intro DD q o r aa W3 hop hDq hcl hdep hA hH;have hq:q<8:=(Array.getElem?_eq_some_iff.1 hop).1
         have:q=0∨q=1∨q=2∨q=3∨q=4∨q=5∨q=6∨q=7:=by omega
         rcases this with rfl | rfl | rfl | rfl | rfl | rfl | rfl | rfl
         all_goals (simp only[List.getElem?_toArray,List.getElem?_cons_zero,List.getElem?_cons_succ,Option.some.injEq] at hop; subst hop)
         · have e7:=hA.keep 7 (by kernel_rfl);exact .inl (.inl ⟨r,W3,by simp,(by simp[execOp,go_sem,e7]),fun _ _=>rfl,hH⟩)
         · have e3:=hA.keep 3 (by kernel_rfl);have hld:=hH.1.keepLt hn12 (by omega);obtain⟨p0,p1,p2,p3,p4,p5,p6,p7,p8,p9,p10,_⟩:=aAf hld;exact .inl (.inl ⟨r,W3,by simp,(by simp[execOp,go_sem,e3,p0,p1,p2,p3,p4,p5,p6,p7,p8,p9,p10]),fun _ _=>rfl,hH⟩)
         · have e62:=hA.was 1 62 rfl (hdep ⟨1,.data⟩ (by simp) rfl) (by simp);have n2:=hDq;have n5:=aAq hcl (k:=5) rfl (e:=⟨2,.data⟩) (by simp) rfl n2;have n6:=aAq hcl (k:=6) rfl (e:=⟨5,.data⟩) (by simp) rfl n5;have n7:=aAq hcl (k:=7) rfl (e:=⟨6,.data⟩) (by simp) rfl n6;rw[hDq,n5,n7] at hH;refine .inl (.inl ⟨(.slice (some ⟨W3.heap.size,0,none⟩) 1 1,r.2),W3.alloc (.cells (xA k op v0 v1 v2 tb nm sl nt ds (.slice sa args.length sc)) 26),by simp,(by simp[execOp,go_sem,e62]),fun t ht=>?_,?_⟩)
           · match t,ht with
             | 0,_=>rfl
             | 1,_=>rfl
             | 2,h=>rw[hDq] at h; cases h
             | 3,_=>rfl
             | 4,_=>rfl
             | 5,_=>rfl
             | 6,_=>rfl
             | t+7,_=>rfl
           · show InPh l pb la lc w12 W.heap.size (fun sl=>#[.int .i64 6,.string ⟨#[]⟩,.int .i64 0,.int .i64 0,.string ⟨#[]⟩,.string ⟨#[]⟩,.string ⟨#[]⟩,.int .i64 0,.bool c,.bool false,sl]) (.mk k op (v0,v1,v2) tb nm sl nt ds args) ex (m12) _ true (DD 4) (DD 5) (DD 7) _;rw[n5,n7]; exact hH.slice (by omega) (by omega) rfl hx12.cells
         · have e0:=hA.keep 0 (by kernel_rfl);exact .inl (.inl ⟨r,W3,by simp,(by simp[execOp,go_sem,e0]),fun _ _=>rfl,hH⟩)
         · have e64:=hA.was 3 64 rfl (hdep ⟨3,.data⟩ (by simp) rfl) (by simp);have n4:=hDq;have n5:=aAq hcl (k:=5) rfl (e:=⟨4,.data⟩) (by simp) rfl n4;have n6:=aAq hcl (k:=6) rfl (e:=⟨5,.data⟩) (by simp) rfl n5;have n7:=aAq hcl (k:=7) rfl (e:=⟨6,.data⟩) (by simp) rfl n6;rw[hDq,n5,n7] at hH;refine .inr (.inr ⟨142,#[.pointer (some ⟨pb,0,none⟩)],by simp,(by simp[execOp,go_sem,e64]),Calls.mono (hH.call (fun hPj=>aEw hex hgt W3 (m12) hPj hRs) hRs (by omega) (by omega)) ?_⟩);rintro e w' (⟨v,rfl,hH'⟩ | ⟨q,hq,rfl,hk⟩)
           · refine .inl ⟨(r.1,v,r.2.2),rfl,fun t ht=>?_,?_⟩
             · match t,ht with
               | 0,_=>rfl
               | 1,_=>rfl
               | 2,_=>rfl
               | 3,_=>rfl
               | 4,h=>rw[hDq] at h; cases h
               | 5,_=>rfl
               | 6,_=>rfl
               | t+7,_=>rfl
             · show InPh l pb la lc w12 W.heap.size (fun sl=>#[.int .i64 6,.string ⟨#[]⟩,.int .i64 0,.int .i64 0,.string ⟨#[]⟩,.string ⟨#[]⟩,.string ⟨#[]⟩,.int .i64 0,.bool c,.bool false,sl]) (.mk k op (v0,v1,v2) tb nm sl nt ds args) ex (m12) (r.1,v,r.2.2) (DD 2) true (DD 5) (DD 7) w';rw[n5,n7]; exact hH'
           · refine .inr ⟨_,rfl,hA.defers,?_⟩;rw[HRe.out,hq];exact⟨rfl,hk.p hK12 (fun b hb=>hb.elim .inl (fun e=>.inr (by omega)))⟩
         · have e63:=hA.was 2 63 rfl (hdep ⟨2,.data⟩ (by simp) rfl) (by simp);have e65:=hA.was 4 65 rfl (hdep ⟨4,.data⟩ (by simp) rfl) (by simp)
           have a63:aa.eval (.tmp 63)=r.1:=by simp[go_sem,e63]
           have a65:aa.eval (.tmp 65)=r.2.1:=by simp[go_sem,e65]
           have d2:=hdep ⟨2,.data⟩ (by simp) rfl;have d4:=hdep ⟨4,.data⟩ (by simp) rfl;have n5:=hDq;have n6:=aAq hcl (k:=6) rfl (e:=⟨5,.data⟩) (by simp) rfl n5;have n7:=aAq hcl (k:=7) rfl (e:=⟨6,.data⟩) (by simp) rfl n6;rw[d2,d4,hDq,n7] at hH;obtain⟨v',w',hrun,hH'⟩:=hH.append (by omega) (by omega) hP hK12 (Nat.le_refl _);refine .inl (.inl ⟨(r.1,r.2.1,v'),w',by simp,(by simp only[execOp,resolve,invoke,builtin,Sem.run_bind,Sem.run_pure,Result.andThen_ok,List.map_toArray,List.map_cons,List.map_nil,a63,a65,hrun]),fun t ht=>?_,?_⟩)
           · match t,ht with
             | 0,_=>rfl
             | 1,_=>rfl
             | 2,_=>rfl
             | 3,_=>rfl
             | 4,_=>rfl
             | 5,h=>rw[hDq] at h; cases h
             | 6,h=>rw[n6] at h; cases h
             | t+7,_=>rfl
           · show InPh l pb la lc w12 W.heap.size (fun sl=>#[.int .i64 6,.string ⟨#[]⟩,.int .i64 0,.int .i64 0,.string ⟨#[]⟩,.string ⟨#[]⟩,.string ⟨#[]⟩,.int .i64 0,.bool c,.bool false,sl]) (.mk k op (v0,v1,v2) tb nm sl nt ds args) ex (m12) _ (DD 2) (DD 4) true (DD 7) _;rw[d2,d4,n7]; exact hH'
         · have e61:=hA.was 0 61 rfl (hdep ⟨0,.data⟩ (by simp) rfl) (by simp);have e66:=hA.was 5 66 rfl (hdep ⟨5,.data⟩ (by simp) rfl) (by simp);have d5:=hdep ⟨5,.data⟩ (by simp) rfl;have d2:=hcl 5 _ d5 rfl ⟨2,.data⟩ (by simp) rfl;have d4:=hcl 5 _ d5 rfl ⟨4,.data⟩ (by simp) rfl;have hH2:=hH;rw[d2,d4,d5] at hH2;obtain⟨_,_,L,k9,_,_,_,A9,B9,hr2⟩:=hH2;exact .inl (.inl ⟨r,W3,by simp,(by simp[execOp,go_sem,e61,e66,hr2]),fun _ _=>rfl,hH⟩)
         · have e2:=hA.keep 2 (by kernel_rfl);have e67:=hA.was 6 67 rfl (hdep ⟨6,.data⟩ (by simp) rfl) (by simp);have d6:=hdep ⟨6,.data⟩ (by simp) rfl;have d5:=hcl 6 _ d6 rfl ⟨5,.data⟩ (by simp) rfl;have d2:=hcl 5 _ d5 rfl ⟨2,.data⟩ (by simp) rfl;have d4:=hcl 5 _ d5 rfl ⟨4,.data⟩ (by simp) rfl;rw[d2,d4,d5,hDq] at hH
           obtain⟨n9,A9,B9,hr2⟩ : ∃ n9 A9 B9,r.2.2 = .slice A9 n9 B9:=by
            obtain⟨_,_,L,k9,_,_,_,A9,B9,hr2⟩:=hH;exact⟨_,A9,B9,hr2⟩
           have h9:=hH.2.1;simp only at h9;obtain⟨p0,p1,p2,p3,p4,p5,p6,p7,p8,p9,p10,pf⟩:=aAf h9;have hst:=hH.store (by omega) (by omega) hP hK12 (Nat.le_refl _) hr2.symm;refine .inr (.inl ⟨_,rfl,by simp,(by simp[execOp,go_sem,e2,e67,hr2,p0,p1,p2,p3,p4,p5,p6,p7,p8,p9,p10,pf]; rfl),?_⟩);show InPh l pb la lc w12 W.heap.size (fun sl=>#[.int .i64 6,.string ⟨#[]⟩,.int .i64 0,.int .i64 0,.string ⟨#[]⟩,.string ⟨#[]⟩,.string ⟨#[]⟩,.int .i64 0,.bool c,.bool false,sl]) (.mk k op (v0,v1,v2) tb nm sl nt ds args) ex (m12) r (DD 2) (DD 4) (DD 5) true _;rw[d2,d4,d5]; exact hst
        case rdone =>
         intro DD r aa W4 hall hA hH;have ha:=hA.eq (goodR.apart (by kernel_rfl)) hall;simp only[aCS,Act.put,List.setIfInBounds_toArray,List.set_cons_zero,List.set_cons_succ] at ha;subst ha;rw[hall 2 (by decide),hall 4 (by decide),hall 5 (by decide),hall 7 (by decide)] at hH;obtain⟨hKg,h8,L,q,hq,hPq,hcv,A9,B9,hr2⟩:=hH;simp only at h8;clear hA hall;obtain⟨y0,y1,y2,y3,y4,y5,y6,y7,y8,y9,y10,_⟩:=aAf h8;have hKq:=hKg.p hK12 (fun b hb=>hb.elim .inl (fun e=>.inr (by omega)));gi_wp2;go_wp2_with fail;refine bodyPost_ret (v:=.agg ((fun sl=>#[.int .i64 6,.string ⟨#[]⟩,.int .i64 0,.int .i64 0,.string ⟨#[]⟩,.string ⟨#[]⟩,.string ⟨#[]⟩,.int .i64 0,.bool c,.bool false,sl]) r.2.2)) (by simp[results,Tryz.results131,go_sem,y0,y1,y2,y3,y4,y5,y6,y7,y8,y9,y10]) rfl ?_;rw[HRe.out,hq];exact⟨⟨_,rfl,GX.mk' (hcv.mono fun b hb=>(by show b<W.heap.size+1; omega))⟩,hKq,hPq⟩
      | false =>
       have hP11:PW l pb la lc w11 m:=hP11;have hT:=aA4 hP11 [98,101,116,119,101,101,110];obtain⟨b14,hb14⟩ : ∃ b,b=isP l (m) 2 [98,101,116,119,101,101,110]:=⟨_,rfl⟩;rw[←hb14] at hT;have HB14:=Lib.hid hb14;clear hb14;go_wp2_with fail;refine Calls.mono hT ?_;rintro e w14 ⟨rfl,hk14,hP14⟩;have hb14:=aAd hk14 hb11 (by omega);have hn14:=aAd hk14 hn11 (by omega);have hz14:=hk14.size;have hK14:=hK11.trans hk14;have hx14:=hx11.keep hk14 (by show pb≤W.heap.size; omega) (fun b hb=>.inl hb);clear hT
       cases b14 with
       | true =>
        have hP14:PW l pb la lc w14 (m+1):=hP14;have HRe:=Lib.hid (HRR.out.trans (aRJ HB11.out.symm HB14.out.symm));have hC:=hsm w14 (m+1) hP14;go_wp2_with fail
        cases hr2:sm (m+1) with
        | out=>exact absurd (by rw[HRe.out,hr2]; rfl) hR
        | stop q =>
         rw[hr2] at hC;refine Calls.mono (hC (fun h=>by cases h)) ?_;rintro e w15 ⟨rfl,hk⟩;refine⟨rfl,?_⟩;rw[HRe.out,hr2];exact⟨rfl,hK14.trans hk⟩
        | ok e2 j2 =>
         rw[hr2] at hC;refine Calls.mono (hC (fun h=>by cases h)) ?_;rintro e' w15 ⟨⟨v,rfl,hy⟩,hk15,hP15⟩;obtain⟨k2,op2,⟨u0,u1,u2⟩,tb2,nm2,sl2,nt2,ds2,args2⟩:=e2;obtain⟨sa2,sc2,rfl,hs2⟩:=hy.form;have hb15:=aAd hk15 hb14 (by omega);have hn15:=aAd hk15 hn14 (by omega);have hz15:=hk15.size;have hK15:=hK14.trans hk15;have hx15:=hx14.keep hk15 (by show pb≤W.heap.size; omega) (fun b hb=>.inl hb);clear hs2;obtain⟨W16,hW16,hk16,hP16,hb16,hm16,hz16⟩:=aAJ hP15 hb15 (xA k2 op2 u0 u1 u2 tb2 nm2 sl2 nt2 ds2 (.slice sa2 args2.length sc2)) 26;have hK16:=hK15.trans hk16;have hn16:=aAd hk16 hn15 (by omega);have hx16:=hx15.keep hk16 (by show pb≤W.heap.size; omega) (fun b hb=>.inl hb);have hl15:=hP15.lt;have hM:=aAK hP16 2 [97,110,100];go_wp2_with fail;rw[←hW16];clear hW16
         cases hm17:aAB l 2 [97,110,100] (j2) with
         | out =>
          unfold aAB at hm17;split at hm17 <;> cases hm17
         | stop q =>
          rw[hm17] at hM;refine Calls.mono hM ?_;rintro e w17 ⟨rfl,hk17⟩;refine⟨rfl,?_⟩;rw[HRe.out];simp only[PR.bind,hr2,hm17];exact⟨rfl,hK16.trans hk17⟩
         | ok u m17 =>
          rw[hm17] at hM;refine Calls.mono hM ?_;rintro e w17 ⟨⟨v,rfl,hv⟩,hk17,hP17⟩;subst hv;have hb17:=aAd hk17 hb16 (by omega);have hn17:=aAd hk17 hn16 (by omega);have hz17:=hk17.size;have hK17:=hK16.trans hk17;have hx17:=hx16.keep hk17 (by show pb≤W.heap.size; omega) (fun b hb=>.inl hb);have hm17':=aAd hk17 hm16 (by omega);have hy17:=hy.keep (hk16.trans hk17) (X':=fun b=>b≤W.heap.size) (by show pb<w14.heap.size; omega) (fun b hb=>.inl (by show b<w14.heap.size; omega))
          have hes:CVRs w17 (fun b=>b≤W.heap.size) (List.flatMap Xp.cells [(.mk k op (v0,v1,v2) tb nm sl nt ds args),(.mk k2 op2 (u0,u1,u2) tb2 nm2 sl2 nt2 ds2 args2)]) (((xA k op v0 v1 v2 tb nm sl nt ds (.slice sa args.length sc))).toList++((xA k2 op2 u0 u1 u2 tb2 nm2 sl2 nt2 ds2 (.slice sa2 args2.length sc2))).toList):=by
           rw[List.flatMap_cons,List.flatMap_cons,List.flatMap_nil,List.append_nil];exact hx17.cells.app hy17.cells
          have HRe2:R=(sm m17).bind fun b mm=>.ok (.mk 7 [] nul [] [] 0 c false ([(.mk k op (v0,v1,v2) tb nm sl nt ds args),(.mk k2 op2 (u0,u1,u2) tb2 nm2 sl2 nt2 ds2 args2)]++[b])) mm:=by
           rw[HRe.out];simp only[PR.bind,hr2,hm17]
          have HRe:=Lib.hid HRe2;clear HRe2 hy;go_wp2_with fail;have hRs:sm (m17)≠.out:=fun h=>hR (by rw[HRe.out,h]; rfl);have hpl2:=hP17.lt;have hH0:CompPh l pb la lc w17 W.heap.size (fun sl=>#[.int .i64 7,.string ⟨#[]⟩,.int .i64 0,.int .i64 0,.string ⟨#[]⟩,.string ⟨#[]⟩,.string ⟨#[]⟩,.int .i64 0,.bool c,.bool false,sl]) [(.mk k op (v0,v1,v2) tb nm sl nt ds args),(.mk k2 op2 (u0,u1,u2) tb2 nm2 sl2 nt2 ds2 args2)] sm (m17) (undef,undef) false false false w17.drew:=⟨KeepG.refl.drew,hb17,hP17.below (Below.refl _ _).drew,rfl⟩;rw[←wpIn_wide (n:=0)]
          refine aAt (by kernel_rfl) (fun _=>trivial) rfl (fun f args w R h=>callsIn_wide.2 h) (by kernel_rfl)
           (fun (r:Value×Value) q=>match q with | 0=>.bool c | 1=>.agg (xA k op v0 v1 v2 tb nm sl nt ds (.slice sa args.length sc)) | 2=>.agg (xA k2 op2 u0 u1 u2 tb2 nm2 sl2 nt2 ds2 (.slice sa2 args2.length sc2)) | 3=>.pointer (some ⟨pb,0,none⟩) | 4=>r.1 | 5=>r.2 | 6=>.agg ((fun sl=>#[.int .i64 7,.string ⟨#[]⟩,.int .i64 0,.int .i64 0,.string ⟨#[]⟩,.string ⟨#[]⟩,.string ⟨#[]⟩,.int .i64 0,.bool c,.bool false,sl]) r.2) | _=>undef)
           (fun r D w'=>CompPh l pb la lc w17 W.heap.size (fun sl=>#[.int .i64 7,.string ⟨#[]⟩,.int .i64 0,.int .i64 0,.string ⟨#[]⟩,.string ⟨#[]⟩,.string ⟨#[]⟩,.int .i64 0,.bool c,.bool false,sl]) [(.mk k op (v0,v1,v2) tb nm sl nt ds args),(.mk k2 op2 (u0,u1,u2) tb2 nm2 sl2 nt2 ds2 args2)] sm (m17) r (D 4) (D 5) (D 7) w') (undef,undef) hH0 ?steps ?rdone
          case steps =>
           intro DD q o r aa W3 hop hDq hcl hdep hA hH;have hq:q<8:=(Array.getElem?_eq_some_iff.1 hop).1
           have:q=0∨q=1∨q=2∨q=3∨q=4∨q=5∨q=6∨q=7:=by omega
           rcases this with rfl | rfl | rfl | rfl | rfl | rfl | rfl | rfl
           all_goals (simp only[List.getElem?_toArray,List.getElem?_cons_zero,List.getElem?_cons_succ,Option.some.injEq] at hop; subst hop)
           · have e7:=hA.keep 7 (by kernel_rfl);exact .inl (.inl ⟨r,W3,by simp,(by simp[execOp,go_sem,e7]),fun _ _=>rfl,hH⟩)
           · have e3:=hA.keep 3 (by kernel_rfl);have hld:=hH.1.keepLt hn17 (by omega);obtain⟨p0,p1,p2,p3,p4,p5,p6,p7,p8,p9,p10,_⟩:=aAf hld;exact .inl (.inl ⟨r,W3,by simp,(by simp[execOp,go_sem,e3,p0,p1,p2,p3,p4,p5,p6,p7,p8,p9,p10]),fun _ _=>rfl,hH⟩)
           · have e8:=hA.keep 8 (by kernel_rfl);have hld:=hH.1.keepLt hm17' (by omega);obtain⟨p0,p1,p2,p3,p4,p5,p6,p7,p8,p9,p10,_⟩:=aAf hld;exact .inl (.inl ⟨r,W3,by simp,(by simp[execOp,go_sem,e8,p0,p1,p2,p3,p4,p5,p6,p7,p8,p9,p10]),fun _ _=>rfl,hH⟩)
           · have e0:=hA.keep 0 (by kernel_rfl);exact .inl (.inl ⟨r,W3,by simp,(by simp[execOp,go_sem,e0]),fun _ _=>rfl,hH⟩)
           · have e78:=hA.was 3 78 rfl (hdep ⟨3,.data⟩ (by simp) rfl) (by simp);have n4:=hDq;have n5:=aAq hcl (k:=5) rfl (e:=⟨4,.data⟩) (by simp) rfl n4;have n6:=aAq hcl (k:=6) rfl (e:=⟨5,.data⟩) (by simp) rfl n5;have n7:=aAq hcl (k:=7) rfl (e:=⟨6,.data⟩) (by simp) rfl n6;rw[hDq,n5,n7] at hH;refine .inr (.inr ⟨140,#[.pointer (some ⟨pb,0,none⟩)],by simp,(by simp[execOp,go_sem,e78]),Calls.mono (CompPh.call hH hsm hRs (by omega) (by omega)) ?_⟩);rintro e w' (⟨v,rfl,hH'⟩ | ⟨q,hq,rfl,hk⟩)
             · refine .inl ⟨(v,r.2),rfl,fun t ht=>?_,?_⟩
               · match t,ht with
                 | 0,_=>rfl
                 | 1,_=>rfl
                 | 2,_=>rfl
                 | 3,_=>rfl
                 | 4,h=>rw[hDq] at h; cases h
                 | 5,_=>rfl
                 | 6,_=>rfl
                 | t+7,_=>rfl
               · show CompPh l pb la lc w17 W.heap.size (fun sl=>#[.int .i64 7,.string ⟨#[]⟩,.int .i64 0,.int .i64 0,.string ⟨#[]⟩,.string ⟨#[]⟩,.string ⟨#[]⟩,.int .i64 0,.bool c,.bool false,sl]) [(.mk k op (v0,v1,v2) tb nm sl nt ds args),(.mk k2 op2 (u0,u1,u2) tb2 nm2 sl2 nt2 ds2 args2)] sm (m17) (v,r.2) true (DD 5) (DD 7) w';rw[n5,n7]; exact hH'
             · refine .inr ⟨_,rfl,hA.defers,?_⟩;rw[HRe.out,hq];exact⟨rfl,hk.p hK17 (fun b hb=>hb.elim .inl (fun e=>.inr (by omega)))⟩
           · have e76:=hA.was 1 76 rfl (hdep ⟨1,.data⟩ (by simp) rfl) (by simp);have e77:=hA.was 2 77 rfl (hdep ⟨2,.data⟩ (by simp) rfl) (by simp);have e79:=hA.was 4 79 rfl (hdep ⟨4,.data⟩ (by simp) rfl) (by simp);have d4:=hdep ⟨4,.data⟩ (by simp) rfl;have n5:=hDq;have n6:=aAq hcl (k:=6) rfl (e:=⟨5,.data⟩) (by simp) rfl n5;have n7:=aAq hcl (k:=7) rfl (e:=⟨6,.data⟩) (by simp) rfl n6;rw[d4,hDq,n7] at hH;obtain⟨k',op',v0',v1',v2',tb',nm',sl',nt',ds',sa',len',sc',hr1⟩:=hH.form;have hsl:=hH.slice (by omega) (by omega) hes hr1 (B:=(xA k op v0 v1 v2 tb nm sl nt ds (.slice sa args.length sc))++(xA k2 op2 u0 u1 u2 tb2 nm2 sl2 nt2 ds2 (.slice sa2 args2.length sc2))++(xA k' op' v0' v1' v2' tb' nm' sl' nt' ds' (.slice sa' len' sc'))) (by simp) (n:=3) rfl;obtain⟨r1,r2⟩:=r;simp only at hr1;subst hr1;refine .inl (.inl ⟨(.agg (xA k' op' v0' v1' v2' tb' nm' sl' nt' ds' (.slice sa' len' sc')),.slice (some ⟨W3.heap.size,0,none⟩) 3 3),W3.alloc (.cells ((xA k op v0 v1 v2 tb nm sl nt ds (.slice sa args.length sc))++(xA k2 op2 u0 u1 u2 tb2 nm2 sl2 nt2 ds2 (.slice sa2 args2.length sc2))++(xA k' op' v0' v1' v2' tb' nm' sl' nt' ds' (.slice sa' len' sc'))) 26),by simp,(by simp[execOp,go_sem,e76,e77,e79]),fun t ht=>?_,?_⟩)
             · match t,ht with
               | 0,_=>rfl
               | 1,_=>rfl
               | 2,_=>rfl
               | 3,_=>rfl
               | 4,_=>rfl
               | 5,h=>rw[hDq] at h; cases h
               | 6,h=>rw[n6] at h; cases h
               | t+7,_=>rfl
             · show CompPh l pb la lc w17 W.heap.size (fun sl=>#[.int .i64 7,.string ⟨#[]⟩,.int .i64 0,.int .i64 0,.string ⟨#[]⟩,.string ⟨#[]⟩,.string ⟨#[]⟩,.int .i64 0,.bool c,.bool false,sl]) [(.mk k op (v0,v1,v2) tb nm sl nt ds args),(.mk k2 op2 (u0,u1,u2) tb2 nm2 sl2 nt2 ds2 args2)] sm (m17) _ (DD 4) true (DD 7) _;rw[d4,n7]; exact hsl
           · have e75:=hA.was 0 75 rfl (hdep ⟨0,.data⟩ (by simp) rfl) (by simp);have e80:=hA.was 5 80 rfl (hdep ⟨5,.data⟩ (by simp) rfl) (by simp);have d5:=hdep ⟨5,.data⟩ (by simp) rfl;have d4:=hcl 5 _ d5 rfl ⟨4,.data⟩ (by simp) rfl;have hH2:=hH;rw[d4,d5] at hH2;obtain⟨_,_,_,_,_,_,_,B,hr2⟩:=hH2;exact .inl (.inl ⟨r,W3,by simp,(by simp[execOp,go_sem,e75,e80,hr2]),fun _ _=>rfl,hH⟩)
           · have e2:=hA.keep 2 (by kernel_rfl);have e81:=hA.was 6 81 rfl (hdep ⟨6,.data⟩ (by simp) rfl) (by simp);have d6:=hdep ⟨6,.data⟩ (by simp) rfl;have d5:=hcl 6 _ d6 rfl ⟨5,.data⟩ (by simp) rfl;have d4:=hcl 5 _ d5 rfl ⟨4,.data⟩ (by simp) rfl;rw[d4,d5,hDq] at hH
             obtain⟨B,hr2⟩ : ∃ B,r.2 = .slice (some ⟨B,0,none⟩) 3 3:=by
              obtain⟨_,_,_,_,_,_,_,hB⟩:=hH;exact hB
             have h9:=hH.2.1;simp only at h9;obtain⟨p0,p1,p2,p3,p4,p5,p6,p7,p8,p9,p10,pf⟩:=aAf h9;have hst:=hH.store (by omega) (by omega) hP hK17 (Nat.le_refl _) hr2.symm;refine .inr (.inl ⟨_,rfl,by simp,(by simp[execOp,go_sem,e2,e81,hr2,p0,p1,p2,p3,p4,p5,p6,p7,p8,p9,p10,pf]; rfl),?_⟩);show CompPh l pb la lc w17 W.heap.size (fun sl=>#[.int .i64 7,.string ⟨#[]⟩,.int .i64 0,.int .i64 0,.string ⟨#[]⟩,.string ⟨#[]⟩,.string ⟨#[]⟩,.int .i64 0,.bool c,.bool false,sl]) [(.mk k op (v0,v1,v2) tb nm sl nt ds args),(.mk k2 op2 (u0,u1,u2) tb2 nm2 sl2 nt2 ds2 args2)] sm (m17) r (DD 4) (DD 5) true _;rw[d4,d5]; exact hst
          case rdone =>
           intro DD r aa W4 hall hA hH;have ha:=hA.eq (goodR.apart (by kernel_rfl)) hall;simp only[aCS,Act.put,List.setIfInBounds_toArray,List.set_cons_zero,List.set_cons_succ] at ha;subst ha;rw[hall 4 (by decide),hall 5 (by decide),hall 7 (by decide)] at hH;obtain⟨hKg,h8,b,q,hq,hPq,hcv,B,hr2⟩:=hH;simp only at h8;clear hA hall;obtain⟨y0,y1,y2,y3,y4,y5,y6,y7,y8,y9,y10,_⟩:=aAf h8;have hKq:=hKg.p hK17 (fun b hb=>hb.elim .inl (fun e=>.inr (by omega)));gi_wp2;go_wp2_with fail;refine bodyPost_ret (v:=.agg ((fun sl=>#[.int .i64 7,.string ⟨#[]⟩,.int .i64 0,.int .i64 0,.string ⟨#[]⟩,.string ⟨#[]⟩,.string ⟨#[]⟩,.int .i64 0,.bool c,.bool false,sl]) r.2)) (by simp[results,Tryz.results131,go_sem,y0,y1,y2,y3,y4,y5,y6,y7,y8,y9,y10]) rfl ?_;rw[HRe.out,hq];exact⟨⟨_,rfl,GX.mk' (hcv.mono fun b hb=>Nat.le_of_lt hb)⟩,hKq,hPq⟩
       | false =>
        have hP14:PW l pb la lc w14 m:=hP14;have hT:=aA4 hP14 [108,105,107,101];obtain⟨b18,hb18⟩ : ∃ b,b=isP l (m) 2 [108,105,107,101]:=⟨_,rfl⟩;rw[←hb18] at hT;have HB18:=Lib.hid hb18;clear hb18;go_wp2_with fail;refine Calls.mono hT ?_;rintro e w18 ⟨rfl,hk18,hP18⟩;have hb18:=aAd hk18 hb14 (by omega);have hn18:=aAd hk18 hn14 (by omega);have hz18:=hk18.size;have hK18:=hK14.trans hk18;have hx18:=hx14.keep hk18 (by show pb≤W.heap.size; omega) (fun b hb=>.inl hb);clear hT
        cases b18 with
        | true =>
         have hP18:PW l pb la lc w18 (m+1):=hP18
         have hes:CVRs w18 (fun b=>b≤W.heap.size) (List.flatMap Xp.cells [(.mk k op (v0,v1,v2) tb nm sl nt ds args)]) ((xA k op v0 v1 v2 tb nm sl nt ds (.slice sa args.length sc))).toList:=by
          rw[List.flatMap_cons,List.flatMap_nil,List.append_nil];exact hx18.cells
         have HRe:=Lib.hid (HRR.out.trans (aSn HB11.out.symm HB14.out.symm HB18.out.symm));go_wp2_with fail;have hRs:sm (m+1)≠.out:=fun h=>hR (by rw[HRe.out,h]; rfl);have hpl2:=hP18.lt;have hH0:CompPh l pb la lc w18 W.heap.size (fun sl=>#[.int .i64 8,.string ⟨#[]⟩,.int .i64 0,.int .i64 0,.string ⟨#[]⟩,.string ⟨#[]⟩,.string ⟨#[]⟩,.int .i64 0,.bool c,.bool false,sl]) [(.mk k op (v0,v1,v2) tb nm sl nt ds args)] sm (m+1) (undef,undef) false false false w18.drew:=⟨KeepG.refl.drew,hb18,hP18.below (Below.refl _ _).drew,rfl⟩;rw[←wpIn_wide (n:=0)]
         refine aAt (by kernel_rfl) (fun _=>trivial) rfl (fun f args w R h=>callsIn_wide.2 h) (by kernel_rfl)
          (fun (r:Value×Value) q=>match q with | 0=>.bool c | 1=>.agg (xA k op v0 v1 v2 tb nm sl nt ds (.slice sa args.length sc)) | 2=>.pointer (some ⟨pb,0,none⟩) | 3=>r.1 | 4=>r.2 | 5=>.agg ((fun sl=>#[.int .i64 8,.string ⟨#[]⟩,.int .i64 0,.int .i64 0,.string ⟨#[]⟩,.string ⟨#[]⟩,.string ⟨#[]⟩,.int .i64 0,.bool c,.bool false,sl]) r.2) | _=>undef)
          (fun r D w'=>CompPh l pb la lc w18 W.heap.size (fun sl=>#[.int .i64 8,.string ⟨#[]⟩,.int .i64 0,.int .i64 0,.string ⟨#[]⟩,.string ⟨#[]⟩,.string ⟨#[]⟩,.int .i64 0,.bool c,.bool false,sl]) [(.mk k op (v0,v1,v2) tb nm sl nt ds args)] sm (m+1) r (D 3) (D 4) (D 6) w') (undef,undef) hH0 ?steps ?rdone
         case steps =>
          intro DD q o r aa W3 hop hDq hcl hdep hA hH;have hq:q<7:=(Array.getElem?_eq_some_iff.1 hop).1
          have:q=0∨q=1∨q=2∨q=3∨q=4∨q=5∨q=6:=by omega
          rcases this with rfl | rfl | rfl | rfl | rfl | rfl | rfl
          all_goals (simp only[List.getElem?_toArray,List.getElem?_cons_zero,List.getElem?_cons_succ,Option.some.injEq] at hop; subst hop)
          · have e7:=hA.keep 7 (by kernel_rfl);exact .inl (.inl ⟨r,W3,by simp,(by simp[execOp,go_sem,e7]),fun _ _=>rfl,hH⟩)
          · have e3:=hA.keep 3 (by kernel_rfl);have hld:=hH.1.keepLt hn18 (by omega);obtain⟨p0,p1,p2,p3,p4,p5,p6,p7,p8,p9,p10,_⟩:=aAf hld;exact .inl (.inl ⟨r,W3,by simp,(by simp[execOp,go_sem,e3,p0,p1,p2,p3,p4,p5,p6,p7,p8,p9,p10]),fun _ _=>rfl,hH⟩)
          · have e0:=hA.keep 0 (by kernel_rfl);exact .inl (.inl ⟨r,W3,by simp,(by simp[execOp,go_sem,e0]),fun _ _=>rfl,hH⟩)
          · have e87:=hA.was 2 87 rfl (hdep ⟨2,.data⟩ (by simp) rfl) (by simp);have n3:=hDq;have n4:=aAq hcl (k:=4) rfl (e:=⟨3,.data⟩) (by simp) rfl n3;have n5:=aAq hcl (k:=5) rfl (e:=⟨4,.data⟩) (by simp) rfl n4;have n6:=aAq hcl (k:=6) rfl (e:=⟨5,.data⟩) (by simp) rfl n5;rw[hDq,n4,n6] at hH;refine .inr (.inr ⟨140,#[.pointer (some ⟨pb,0,none⟩)],by simp,(by simp[execOp,go_sem,e87]),Calls.mono (CompPh.call hH hsm hRs (by omega) (by omega)) ?_⟩);rintro e w' (⟨v,rfl,hH'⟩ | ⟨q,hq,rfl,hk⟩)
            · refine .inl ⟨(v,r.2),rfl,fun t ht=>?_,?_⟩
              · match t,ht with
                | 0,_=>rfl
                | 1,_=>rfl
                | 2,_=>rfl
                | 3,h=>rw[hDq] at h; cases h
                | 4,_=>rfl
                | 5,_=>rfl
                | t+6,_=>rfl
              · show CompPh l pb la lc w18 W.heap.size (fun sl=>#[.int .i64 8,.string ⟨#[]⟩,.int .i64 0,.int .i64 0,.string ⟨#[]⟩,.string ⟨#[]⟩,.string ⟨#[]⟩,.int .i64 0,.bool c,.bool false,sl]) [(.mk k op (v0,v1,v2) tb nm sl nt ds args)] sm (m+1) (v,r.2) true (DD 4) (DD 6) w';rw[n4,n6]; exact hH'
            · refine .inr ⟨_,rfl,hA.defers,?_⟩;rw[HRe.out,hq];exact⟨rfl,hk.p hK18 (fun b hb=>hb.elim .inl (fun e=>.inr (by omega)))⟩
          · have e86:=hA.was 1 86 rfl (hdep ⟨1,.data⟩ (by simp) rfl) (by simp);have e88:=hA.was 3 88 rfl (hdep ⟨3,.data⟩ (by simp) rfl) (by simp);have d3:=hdep ⟨3,.data⟩ (by simp) rfl;have n4:=hDq;have n5:=aAq hcl (k:=5) rfl (e:=⟨4,.data⟩) (by simp) rfl n4;have n6:=aAq hcl (k:=6) rfl (e:=⟨5,.data⟩) (by simp) rfl n5;rw[d3,hDq,n6] at hH;obtain⟨k',op',v0',v1',v2',tb',nm',sl',nt',ds',sa',len',sc',hr1⟩:=hH.form;have hsl:=hH.slice (by omega) (by omega) hes hr1 (B:=(xA k op v0 v1 v2 tb nm sl nt ds (.slice sa args.length sc))++(xA k' op' v0' v1' v2' tb' nm' sl' nt' ds' (.slice sa' len' sc'))) (by simp) (n:=2) rfl;obtain⟨r1,r2⟩:=r;simp only at hr1;subst hr1;refine .inl (.inl ⟨(.agg (xA k' op' v0' v1' v2' tb' nm' sl' nt' ds' (.slice sa' len' sc')),.slice (some ⟨W3.heap.size,0,none⟩) 2 2),W3.alloc (.cells ((xA k op v0 v1 v2 tb nm sl nt ds (.slice sa args.length sc))++(xA k' op' v0' v1' v2' tb' nm' sl' nt' ds' (.slice sa' len' sc'))) 26),by simp,(by simp[execOp,go_sem,e86,e88]),fun t ht=>?_,?_⟩)
            · match t,ht with
              | 0,_=>rfl
              | 1,_=>rfl
              | 2,_=>rfl
              | 3,_=>rfl
              | 4,h=>rw[hDq] at h; cases h
              | 5,h=>rw[n5] at h; cases h
              | t+6,_=>rfl
            · show CompPh l pb la lc w18 W.heap.size (fun sl=>#[.int .i64 8,.string ⟨#[]⟩,.int .i64 0,.int .i64 0,.string ⟨#[]⟩,.string ⟨#[]⟩,.string ⟨#[]⟩,.int .i64 0,.bool c,.bool false,sl]) [(.mk k op (v0,v1,v2) tb nm sl nt ds args)] sm (m+1) _ (DD 3) true (DD 6) _;rw[d3,n6]; exact hsl
          · have e85:=hA.was 0 85 rfl (hdep ⟨0,.data⟩ (by simp) rfl) (by simp);have e89:=hA.was 4 89 rfl (hdep ⟨4,.data⟩ (by simp) rfl) (by simp);have d4:=hdep ⟨4,.data⟩ (by simp) rfl;have d3:=hcl 4 _ d4 rfl ⟨3,.data⟩ (by simp) rfl;have hH2:=hH;rw[d3,d4] at hH2;obtain⟨_,_,_,_,_,_,_,B,hr2⟩:=hH2;exact .inl (.inl ⟨r,W3,by simp,(by simp[execOp,go_sem,e85,e89,hr2]),fun _ _=>rfl,hH⟩)
          · have e2:=hA.keep 2 (by kernel_rfl);have e90:=hA.was 5 90 rfl (hdep ⟨5,.data⟩ (by simp) rfl) (by simp);have d5:=hdep ⟨5,.data⟩ (by simp) rfl;have d4:=hcl 5 _ d5 rfl ⟨4,.data⟩ (by simp) rfl;have d3:=hcl 4 _ d4 rfl ⟨3,.data⟩ (by simp) rfl;rw[d3,d4,hDq] at hH
            obtain⟨B,hr2⟩ : ∃ B,r.2 = .slice (some ⟨B,0,none⟩) 2 2:=by
             obtain⟨_,_,_,_,_,_,_,hB⟩:=hH;exact hB
            have h9:=hH.2.1;simp only at h9;obtain⟨p0,p1,p2,p3,p4,p5,p6,p7,p8,p9,p10,pf⟩:=aAf h9;have hst:=hH.store (by omega) (by omega) hP hK18 (Nat.le_refl _) hr2.symm;refine .inr (.inl ⟨_,rfl,by simp,(by simp[execOp,go_sem,e2,e90,hr2,p0,p1,p2,p3,p4,p5,p6,p7,p8,p9,p10,pf]; rfl),?_⟩);show CompPh l pb la lc w18 W.heap.size (fun sl=>#[.int .i64 8,.string ⟨#[]⟩,.int .i64 0,.int .i64 0,.string ⟨#[]⟩,.string ⟨#[]⟩,.string ⟨#[]⟩,.int .i64 0,.bool c,.bool false,sl]) [(.mk k op (v0,v1,v2) tb nm sl nt ds args)] sm (m+1) r (DD 3) (DD 4) true _;rw[d3,d4]; exact hst
         case rdone =>
          intro DD r aa W4 hall hA hH;have ha:=hA.eq (goodR.apart (by kernel_rfl)) hall;simp only[aCS,Act.put,List.setIfInBounds_toArray,List.set_cons_zero,List.set_cons_succ] at ha;subst ha;rw[hall 3 (by decide),hall 4 (by decide),hall 6 (by decide)] at hH;obtain⟨hKg,h8,b,q,hq,hPq,hcv,B,hr2⟩:=hH;simp only at h8;clear hA hall;obtain⟨y0,y1,y2,y3,y4,y5,y6,y7,y8,y9,y10,_⟩:=aAf h8;have hKq:=hKg.p hK18 (fun b hb=>hb.elim .inl (fun e=>.inr (by omega)));gi_wp2;go_wp2_with fail;refine bodyPost_ret (v:=.agg ((fun sl=>#[.int .i64 8,.string ⟨#[]⟩,.int .i64 0,.int .i64 0,.string ⟨#[]⟩,.string ⟨#[]⟩,.string ⟨#[]⟩,.int .i64 0,.bool c,.bool false,sl]) r.2)) (by simp[results,Tryz.results131,go_sem,y0,y1,y2,y3,y4,y5,y6,y7,y8,y9,y10]) rfl ?_;rw[HRe.out,hq];exact⟨⟨_,rfl,GX.mk' (hcv.mono fun b hb=>Nat.le_of_lt hb)⟩,hKq,hPq⟩
        | false =>
         have hP18:PW l pb la lc w18 m:=hP18;have HRe:=Lib.hid (HRR.out.trans (aQV HB11.out.symm HB14.out.symm HB18.out.symm));obtain⟨r0,r1,r2,r3,r4,r5,r6,r7,r8,r9,r10,_⟩:=aAf hn18;have hx19:GX (fun b=>b≤W.heap.size) (.mk k op (v0,v1,v2) tb nm sl nt ds args) (.agg (xA k op v0 v1 v2 tb nm sl nt ds (.slice sa args.length sc))) w18:=hx18;obtain⟨p0,p1,p2,p3,p4,p5,p6,p7,p8,p9,p10,pf⟩:=aAf hb18;go_wp2_with fail
         exact aAF hb18 (fun _ y0 y1 y2 y3 y4 y5 y6 y7 y8 y9 y10=>by simp[results,Tryz.results131,go_sem,y0,y1,y2,y3,y4,y5,y6,y7,y8,y9,y10]) rfl hP (hK18) hP18 (hx19) (by
          rw[HRe.out]
          try rfl)
end
end
end Go.Proofs.YtcdeimjlgpfjiaaGreatDoor
