/- The parser's named expressions. Condition: what its calls come to. -/
import Derived.Test.YtcdeimjlgpfjiaaGreatDoorG18
set_option linter.unusedSimpArgs false
set_option linter.unusedVariables false
namespace Go.Proofs.YtcdeimjlgpfjiaaGreatDoor
section
open Go.RowKit Go.IntWalk
attribute [local go_sem] Oper.semAt_some
section
variable {l:List Tok} {pb:Nat} {la:Option Addr} {lc:Nat}
theorem aEC (w:World) (hg:Glo w) (s:List UInt8) (hs:Sm s):Calls Tryz.prog 25 #[.string (bs s)] w fun e w'=>e = .returned (.string (bs (aAn s)))∧Below w.heap.size w w':=by
 refine Calls.mono (FnC.calls (canEnter_of Tryz.func25 (by kernel_rfl) (by kernel_rfl)) (aAL s hs.sz) w (fun _=>False) [.string (bs s)] hg (fun _ h=>h.elim) (by simp only[DVRs,DVR,and_true]; exact .v _ rfl)) ?_;rintro e w' ⟨v,rfl,hd,hB⟩;simp only[DVR] at hd;cases hd;exact⟨rfl,hB⟩
set_option maxHeartbeats 8000000 in
set_option maxRecDepth 100000 in
theorem aKf {ex:Nat→PR Xp} (hcl:aJk l pb la lc 155 (aFA l ex)):aJk l pb la lc 152 (aCZ l ex):=by
 intro W i name hP hsm hR;generalize hRR:aCZ l ex name i=R at hR ⊢;unfold aCZ at hRR;have HRR:=Lib.hid hRR;clear hRR;obtain⟨W1,hW1⟩ : ∃ W1,W1=W.alloc (.cells z11 26):=⟨_,rfl⟩
 have hK1:KeepP pb W W1:=by rw[hW1]; exact (KeepP.refl pb W).alloc _
 have hP1:PW l pb la lc W1 i:=by rw[hW1]; exact hP.alloc _
 have hz1:W1.heap.size=W.heap.size+1:=by rw[hW1]; simp
 have hpl:=hP.lt
 have hb1:W1.heap[W.heap.size]? = some (.cells z11 26 (0,0)):=by rw[hW1]; exact aAl _ _
 go_enter Tryz.func152,Tryz.ntmps152
 go_wp2_with fail;rw[←hW1];clear hW1;have hT:=aCk hP1 [46];obtain⟨b,hb⟩ : ∃ b,b=isP l i 4 [46]:=⟨_,rfl⟩;rw[←hb] at hT;have HB2:=Lib.hid hb;clear hb;refine Calls.mono hT ?_;rintro e w2 ⟨rfl,hk2,hP2⟩;have hb2:=aAd hk2 hb1 (by omega);have hz2:=hk2.size;have hK2:=hK1.trans hk2;clear hT
 cases b with
 | true =>
  have hP2:PW l pb la lc w2 (i+1):=hP2;have hT:=aFj hP2 1;obtain⟨b,hb⟩ : ∃ b,b=aBg l 1 (i+1):=⟨_,rfl⟩;rw[←hb] at hT;have HB3:=Lib.hid hb;clear hb;go_wp2_with fail;refine Calls.mono hT ?_;rintro e w3 ⟨rfl,hk3,hP3⟩;have hb3:=aAd hk3 hb2 (by omega);have hz3:=hk3.size;have hK3:=hK2.trans hk3;clear hT
  cases b with
  | true =>
   obtain⟨⟨kd,tx,⟨v0,v1,v2⟩,pl⟩,ht⟩ : ∃ t,t=l.getD (i+1) default:=⟨_,rfl⟩
   have hRe:R = .ok (.mk 2 [] nul name tx 0 false false []) (i+2):=by rw[←HRR.out,←HB2.out,←HB3.out,←ht]; rfl
   have HRe:=Lib.hid hRe;rw[←ht];clear hRe ht;have hP3:PW l pb la lc w3 (i+2):=hP3;obtain⟨W4,hW4,hk4,hP4,hb4,hn4,hz4⟩:=aAJ hP3 hb3 #[.int .i64 kd,.string (bs tx),.int .i64 v0,.int .i64 v1,.string (bs v2),.int .i64 pl] 40;have hK4:=hK3.trans hk4
   have m1:W4.cell? ⟨w3.heap.size,1,none⟩=some (.string (bs tx)):=by simp[World.cell?,hn4]
   have hg:GX (fun b=>b≤W.heap.size) (.mk 2 [] (0,0,[]) name tx 0 false false []) (.agg (xA 2 [] 0 0 [] name tx 0 false false (.slice none 0 0))) W4:=GX.mk' (.nil none);subst hW4;simp only[tokV,if_true];obtain⟨p0,p1,p2,p3,p4,p5,p6,p7,p8,p9,p10,pf⟩:=aAf hb4;go_wp2_with fail
   exact aAF hb4 (fun _ y0 y1 y2 y3 y4 y5 y6 y7 y8 y9 y10=>by simp[results,Tryz.results152,go_sem,y0,y1,y2,y3,y4,y5,y6,y7,y8,y9,y10]) rfl hP (hK4) hP4 (hg) (by
    rw[HRe.out]
    try rfl)
  | false =>
   have hP3:PW l pb la lc w3 (i+1):=hP3;have ht0:tokV default = .agg zTok:=rfl
   have hRe:R = .stop (i+1):=by rw[←HRR.out,←HB2.out,←HB3.out]; rfl
   have HRe:=Lib.hid hRe;clear hRe;obtain⟨W4,hW4,hk4,hP4,hb4,hn4,hz4⟩:=aAJ hP3 hb3 zTok 40;have hK4:=hK3.trans hk4;simp only[Bool.false_eq_true,if_false,ht0];go_wp2_with fail;rw[←hW4];clear hW4;refine Calls.mono (aBB hP4) ?_;rintro e w12 ⟨rfl,rfl⟩;refine⟨rfl,?_⟩;rw[HRe.out];exact⟨rfl,hK4⟩
 | false =>
  have hP2:PW l pb la lc w2 i:=hP2;have hT:=aCk hP2 [40];obtain⟨b,hb⟩ : ∃ b,b=isP l i 4 [40]:=⟨_,rfl⟩;rw[←hb] at hT;have HB3:=Lib.hid hb;clear hb;go_wp2_with fail;refine Calls.mono hT ?_;rintro e w3 ⟨rfl,hk3,hP3⟩;have hb3:=aAd hk3 hb2 (by omega);have hz3:=hk3.size;have hK3:=hK2.trans hk3;clear hT
  cases b with
  | true =>
   have hP3:PW l pb la lc w3 (i+1):=hP3
   have hRe:R=aFA l ex (aAn name) (i+1):=by rw[←HRR.out,←HB2.out,←HB3.out]; rfl
   have HRe:=Lib.hid hRe;clear hRe;go_wp2_with fail;refine Calls.mono (aEC w3 hP3.glo name hsm) ?_;rintro e w4 ⟨rfl,hB4⟩;have hk4:KeepP pb w3 w4:=aAo hB4;have hP4:=hP3.below hB4;have hb4:=aAd hk4 hb3 (by omega);have hz4:=hk4.size;have hK4:=hK3.trans hk4;have hC:=hcl w4 (i+1) (aAn name) hP4 (by unfold Sm at *; rw[aCr]; exact hsm);go_wp2_with fail
   cases hr:aFA l ex (aAn name) (i+1) with
   | out=>exact absurd (by rw[HRe.out,hr]) hR
   | stop j =>
    rw[hr] at hC;refine Calls.mono (hC (fun h=>by cases h)) ?_;rintro e w9 ⟨rfl,hk⟩;refine⟨rfl,?_⟩;rw[HRe.out,hr];exact⟨rfl,(hK4).trans hk⟩
   | ok e j =>
    rw[hr] at hC;refine Calls.mono (hC (fun h=>by cases h)) ?_;rintro e' w9 ⟨⟨v,rfl,hx⟩,hk,hP9⟩;obtain⟨k,op,⟨v0,v1,v2⟩,tb,nm,sl,nt,ds,args⟩:=e;obtain⟨sa,sc,rfl,hs⟩:=hx.form;have hb9:=aAd hk hb4 (by omega);have hz9:=hk.size;have hx2:=hx.mono (X':=fun b=>b≤W.heap.size) (fun b hb=>by omega);obtain⟨p0,p1,p2,p3,p4,p5,p6,p7,p8,p9,p10,pf⟩:=aAf hb9;go_wp2_with fail
    exact aAF hb9 (fun _ y0 y1 y2 y3 y4 y5 y6 y7 y8 y9 y10=>by simp[results,Tryz.results152,go_sem,y0,y1,y2,y3,y4,y5,y6,y7,y8,y9,y10]) rfl hP ((hK4).trans hk) hP9 (hx2) (by
     rw[HRe.out,hr]
     try rfl)
  | false =>
   have hP3:PW l pb la lc w3 i:=hP3
   have hRe:R = .ok (.mk 2 [] nul [] name 0 false false []) i:=by rw[←HRR.out,←HB2.out,←HB3.out]; rfl
   have HRe:=Lib.hid hRe;clear hRe;have hg:GX (fun b=>b≤W.heap.size) (.mk 2 [] (0,0,[]) [] name 0 false false []) (.agg (xA 2 [] 0 0 [] [] name 0 false false (.slice none 0 0))) w3:=GX.mk' (.nil none);obtain⟨p0,p1,p2,p3,p4,p5,p6,p7,p8,p9,p10,pf⟩:=aAf hb3;go_wp2_with fail
   exact aAF hb3 (fun _ y0 y1 y2 y3 y4 y5 y6 y7 y8 y9 y10=>by simp[results,Tryz.results152,go_sem,y0,y1,y2,y3,y4,y5,y6,y7,y8,y9,y10]) rfl hP (hK3) hP3 (hg) (by
    rw[HRe.out]
    try rfl)
end
end
end Go.Proofs.YtcdeimjlgpfjiaaGreatDoor
