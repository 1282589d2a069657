/- The parser's chains: parts with operators between. Condition: what a part comes to. -/
import Derived.Test.YtcdeimjlgpfjiaaGreatDoorG14
set_option linter.unusedSimpArgs false
set_option linter.unusedVariables false
namespace Go.Proofs.YtcdeimjlgpfjiaaGreatDoor
section
open Go.RowKit Go.IntWalk
attribute [local go_sem] Oper.semAt_some
def aAY (l:List Tok) (pb:Nat) (la:Option Addr) (lc:Nat) (g:Nat) (r:Nat→PR Xp):Prop :=
 ∀ (W:World) (i:Nat),PW l pb la lc W i→r i≠.out→Calls Tryz.prog g #[.pointer (some ⟨pb,0,none⟩)] W (aDJ l pb la lc W (GX (fun b=>b<W.heap.size)) (r i))
abbrev z11:Array Value:=#[.int .i64 0,.string ⟨#[]⟩,.int .i64 0,.int .i64 0,.string ⟨#[]⟩,.string ⟨#[]⟩,.string ⟨#[]⟩,.int .i64 0,.bool false,.bool false,.slice none 0 0]
def atOf (pb:Nat) (w:World):Nat:=match w.cell? ⟨pb,1,none⟩ with
 | some (.int _ z)=>z.toNat
 | _=>0
section
variable {l:List Tok} {pb:Nat} {la:Option Addr} {lc:Nat} {W W':World} {i:Nat}
theorem PW.atOf (h:PW l pb la lc W i):atOf pb W=i:=by unfold Go.Proofs.YtcdeimjlgpfjiaaGreatDoor.atOf; rw[h.c1]; simp
theorem PW.alloc (h:PW l pb la lc W i) (o:Obj):PW l pb la lc (W.alloc o) i:=h.below ((Below.refl _ _).alloc (Nat.le_refl _) _)
theorem aAJ {b:Nat} {o:Obj} (h:PW l pb la lc W i) (hb:W.heap[b]? = some o) (A:Array Value) (T:TypeId) : ∃ W',W'=W.alloc (.cells A T)∧KeepP pb W W'∧PW l pb la lc W' i∧W'.heap[b]? = some o∧W'.heap[W.heap.size]? = some (.cells A T (0,0))∧W'.heap.size=W.heap.size+1 :=
 ⟨_,rfl,(KeepP.refl pb W).alloc _,h.alloc _,(Below.heap_alloc _ _ _ (Array.getElem?_eq_some_iff.1 hb).1).trans hb,aAl _ _,by simp⟩
def aSQ (l:List Tok) (pb:Nat) (la:Option Addr) (lc:Nat) (W:World) (b8 b9:Nat) (part:Nat→PR Xp) (kind:Int) (ops:List (List UInt8)) (R:PR Xp) (w:World):Prop :=
 ∃ (n:Nat) (e:Xp) (j:Nat),aDB l part kind ops n e j=R∧PW l pb la lc w j∧KeepP pb W w∧(∃ a,w.heap[b9]? = some (.cells a 26 (0,0))∧GX (fun b=>b≤b8∨b=b9) e (.agg a) w)∧(b8<b9∧pb<b8)∧w.heap[b8]? = some (.cells z11 26 (0,0))
def aG2 (l:List Tok) (pb:Nat) (la:Option Addr) (lc:Nat) (W:World) (b8 b9:Nat) (part:Nat→PR Xp) (j:Nat) (e:Xp) (a:Array Value) (op:List UInt8) (r:Value×Value) (d3 d4 d6:Bool) (w:World):Prop :=
 KeepP pb W w∧w.heap[b8]? = some (.cells z11 26 (0,0))∧w.heap[b9]? = some (.cells (match d6 with | false=>a | true=>xA 4 op 0 0 [] [] [] 0 false false r.2) 26 (0,0)) ∧
  (match d3 with
   | false=>PW l pb la lc w (j+1)∧d4=false
   | true=>∃ (b:Xp) (k:Nat),part (j+1) = .ok b k∧PW l pb la lc w k∧(match d4 with | false=>GX (fun b=>b≤b8∨b=b9) b r.1 w | true=>CVR w (fun b=>b≤b8∨b=b9) (.vs (xcs [e,b])) r.2∧∃ B,r.2 = .slice (some ⟨B,0,none⟩) 2 2)) ∧
  (d4=false→GX (fun b=>b≤b8∨b=b9) e (.agg a) w)
theorem aA3 {l:List Tok} {i:Nat} {k:Int} {s:List UInt8} (h:isP l i k s=true):i<l.length:=by
 unfold isP at h;simp only[Bool.and_eq_true,decide_eq_true_eq] at h;exact h.1.1
theorem aDm {l:List Tok} {i:Nat} {k:Int} : ∀ {ops:List (List UInt8)} {op:List UInt8},oneP l k i ops=some op→i<l.length
 | [],op,h=>by cases h
 | s::r,op,h=>by
  unfold oneP at h;split at h
  · rename_i h1; exact aA3 h1
  · exact aDm h
set_option maxHeartbeats 4000000 in
set_option maxRecDepth 100000 in
theorem aCo (hP:PW l pb la lc W i) (g:Nat) (hg : ∀ (args:Array Value) (w:World),(callFunc g args).run Tryz.prog w = .ok (.enter g args) w) {part:Nat→PR Xp} (hpart:aAY l pb la lc g part) (hge : ∀ i e j,part i = .ok e j→i≤j)
 (kind:Int) (ops:List (List UInt8)) (oa:Option Addr) (oc':Nat) (ho:CVR W (fun b=>b=pb) (.vs (oc ops)) (.slice oa ops.length oc')) (hn:ops.length≤100) (hR:aBt l part kind ops i≠.out) :
 Calls Tryz.prog 65 #[.pointer (some ⟨pb,0,none⟩),.func (.func g) #[.pointer (some ⟨pb,0,none⟩)] #[],.int .i64 kind,.slice oa ops.length oc'] W (aDJ l pb la lc W (GX (fun b=>b<W.heap.size)) (aBt l part kind ops i)):=by
 obtain⟨W1,hW1⟩ : ∃ W1,W1=W.alloc (.cells z11 26):=⟨_,rfl⟩
 have hP1:PW l pb la lc W1 i:=by rw[hW1]; exact hP.alloc _
 have hK1:KeepP pb W W1:=by rw[hW1]; exact (KeepP.refl pb W).alloc _
 have hc1:W1.heap[W.heap.size]? = some (.cells z11 26 (0,0)):=by rw[hW1]; exact aAl _ _
 have hz1:W1.heap.size=W.heap.size+1:=by rw[hW1]; simp
 go_enter Tryz.func65,Tryz.ntmps65
 go_wp2_with fail;rw[←hW1];clear hW1;have hC:=hpart W1 i hP1;obtain⟨R0,hR0⟩ : ∃ R0,R0=aBt l part kind ops i:=⟨_,rfl⟩;rw[←hR0] at hR;have HR0:=Lib.hid hR0;unfold aBt at hR0
 cases hp:part i with
 | out=>rw[hp] at hR0; exact absurd hR0 hR
 | stop j =>
  rw[hp] at hC hR0;subst hR0;refine Calls.mono (hC (fun h=>by cases h)) ?_;rintro e w2 ⟨rfl,h2⟩;refine⟨rfl,?_⟩;rw[←HR0.out];exact⟨rfl,hK1.trans h2⟩
 | ok e j =>
  rw[hp] at hC hR0;have hij:=hge i e j hp;have hRR:R0=aDB l part kind ops (l.length+1) e j:=hR0;clear hR0;refine Calls.mono (hC (fun h=>by cases h)) ?_;rintro e' w2 ⟨⟨v,rfl,hx⟩,h2,hP2⟩;obtain⟨k,op,⟨v0,v1,v2⟩,tb,nm,sl,nt,ds,args⟩:=e;obtain⟨sa,sc,rfl,hs⟩:=hx.form;go_wp2_with fail;obtain⟨W3,hW3⟩ : ∃ W3,W3=w2.alloc (.cells (xA k op v0 v1 v2 tb nm sl nt ds (.slice sa args.length sc)) 26):=⟨_,rfl⟩;have hz2:=h2.size
  have hI:aSQ l pb la lc W W.heap.size w2.heap.size part kind ops R0 W3:=by
   have hK3:KeepP pb w2 W3:=by rw[hW3]; exact (KeepP.refl pb w2).alloc _
   refine⟨l.length+1,_,j,hRR.symm,by rw[hW3]; exact hP2.alloc _,(hK1.trans h2).trans hK3,⟨xA k op v0 v1 v2 tb nm sl nt ds (.slice sa args.length sc),by rw[hW3]; exact aAl _ _,hx.step ⟨fun b hn hlt=>hK3.heap b hlt (fun e=>hn (by subst e; exact hP1.lt)),fun b hb=>by rcases hb with hb | rfl <;> omega,hK3.size⟩⟩,⟨by omega,hP.lt⟩,(hK3.heap _ (by omega) ?_).trans ((h2.heap _ (by omega) ?_).trans hc1)⟩
   all_goals have:=hP.lt; omega
  rw[←hW3]
  have hpb9:w2.heap.size≠pb:=by have:=hP2.lt; omega
  have hpb8:W.heap.size≠pb:=by have:=hP.lt; omega
  have hb89:W.heap.size<w2.heap.size:=by omega
  clear hW3 hc1 hx hs hC hP1 hK1 hP2 h2 hp hz2;clear hRR;obtain⟨b9,hb9⟩ : ∃ b9,b9=w2.heap.size:=⟨_,rfl⟩;rw[←hb9] at hI hpb9 hb89 ⊢;clear hb9
  go_loopw [14] (fun _ wr=>aSQ l pb la lc W W.heap.size b9 part kind ops R0 wr) (fun _ wr=>l.length - atOf pb wr)
  case atStart=>exact hI
  case round =>
   clear hI;obtain⟨n,e,j,hch,hPj,hKj,⟨a,hca,hga⟩,hbb,hc8⟩:=hrel;obtain⟨k,op,⟨v0,v1,v2⟩,tb,nm,sl,nt,ds,args⟩:=e;obtain⟨sa,sc,ha,hs⟩:=hga.form;injection ha with ha;subst ha
   cases n with
   | zero=>exact absurd hch.symm hR
   | succ n =>
    have hO:=aHa hPj kind ops oa oc' (hKj.cv ho) hn;unfold aDB at hch
    cases ho1:oneP l kind j ops with
    | none =>
     rw[ho1] at hch hO;simp only at hch;simp only[Option.getD_none,Option.isSome_none] at hO;go_wp2_with fail;have hl9:=(Array.getElem?_eq_some_iff.1 hca).1;have hl8:=(Array.getElem?_eq_some_iff.1 hc8).1;refine Calls.mono hO ?_;rintro e' w3 ⟨rfl,h3,hP3⟩;have hca3:=(h3.heap _ hl9 hpb9).trans hca;have hc83:=(h3.heap _ hl8 hpb8).trans hc8;obtain⟨p0,p1,p2,p3,p4,p5,p6,p7,p8,p9,p10,pf⟩:=aAf hca3;obtain⟨q0,q1,q2,q3,q4,q5,q6,q7,q8,q9,q10,qf⟩:=aAf hc83;go_wp2_with fail;have hA:=aBD hc83 (.int .i64 k) (.string (bs op)) (.int .i64 v0) (.int .i64 v1) (.string (bs v2)) (.string (bs tb)) (.string (bs nm)) (.int .i64 sl) (.bool nt) (.bool ds) (.slice sa args.length sc);have hB:=fun (g:Nat) (hg:g≠W.heap.size)=>aAw (w:=w3) hg (.int .i64 k) (.string (bs op)) (.int .i64 v0) (.int .i64 v1) (.string (bs v2)) (.string (bs tb)) (.string (bs nm)) (.int .i64 sl) (.bool nt) (.bool ds) (.slice sa args.length sc);have hK:=aFS (hKj.trans h3) (Nat.le_refl W.heap.size) (.int .i64 k) (.string (bs op)) (.int .i64 v0) (.int .i64 v1) (.string (bs v2)) (.string (bs tb)) (.string (bs nm)) (.int .i64 sl) (.bool nt) (.bool ds) (.slice sa args.length sc);have hz:=hK.size;generalize hWf:World.setCell _ ⟨W.heap.size,10,none⟩ _=Wf at hA hB hK ⊢
     have hzf:Wf.heap.size=w3.heap.size:=by rw[←hWf]; simp
     clear hWf;obtain⟨y0,y1,y2,y3,y4,y5,y6,y7,y8,y9,y10,_⟩:=aAf hA;refine bodyPost_ret (v:=.agg (xA k op v0 v1 v2 tb nm sl nt ds (.slice sa args.length sc))) (by simp[results,Tryz.results65,go_sem,y0,y1,y2,y3,y4,y5,y6,y7,y8,y9,y10]) rfl ?_;rw[←HR0.out,←hch];refine⟨⟨_,rfl,hga.step ⟨fun b hn hlt=>?_,fun b hb=>.inl (.inl (by omega)),?_⟩⟩,hK,?_⟩
     · have:W.heap.size<b:=by omega
       exact (hB b (by omega)).trans (h3.heap b hlt (by omega))
     · rw[hzf]; exact h3.size
     · exact hP.kept hK ((hB pb (by omega)).trans hP3.cell) hPj.le
    | some op2 =>
     rw[ho1] at hch hO;simp only at hch;simp only[Option.getD_some,Option.isSome_some] at hO;have hjl:=aDm ho1;have hl9:=(Array.getElem?_eq_some_iff.1 hca).1;have hl8:=(Array.getElem?_eq_some_iff.1 hc8).1;go_wp2_with fail;refine Calls.mono hO ?_;rintro e' w3 ⟨rfl,h3,hP3⟩;have hP3:PW l pb la lc w3 (j+1):=hP3;have hca3:=(h3.heap _ hl9 hpb9).trans hca;have hc83:=(h3.heap _ hl8 hpb8).trans hc8;have hg3:=hga.keep h3 (.inl (by omega)) (fun b hb=>.inl hb);have hK3:=hKj.trans h3;clear hga hca hc8 hKj hs;go_wp2_with fail
     have hH0:aG2 l pb la lc W W.heap.size b9 part j (.mk k op (v0,v1,v2) tb nm sl nt ds args) (xA k op v0 v1 v2 tb nm sl nt ds (.slice sa args.length sc)) op2 (undef,undef) false false false w3.drew :=
      ⟨hK3.trans (aAo (Below.refl _ _).drew),hc83,hca3,⟨hP3.below (Below.refl _ _).drew,rfl⟩,fun _=>hg3.keep (aAo (pb:=pb) (Below.refl _ _).drew) (.inl (by omega)) (fun b hb=>.inl hb)⟩
     rw[←wpIn_wide (n:=0)]
     refine aAt (by kernel_rfl) (fun _=>trivial) rfl (fun f args w R h=>callsIn_wide.2 h) (by kernel_rfl)
      (fun (r:Value×Value) q=>match q with | 0=>.string (bs op2) | 1=>.agg (xA k op v0 v1 v2 tb nm sl nt ds (.slice sa args.length sc)) | 2=>.func (.func g) #[.pointer (some ⟨pb,0,none⟩)] #[] | 3=>r.1 | 4=>r.2 | 5=>.agg (xA 4 op2 0 0 [] [] [] 0 false false r.2) | _=>undef)
      (fun r D w'=>aG2 l pb la lc W W.heap.size b9 part j (.mk k op (v0,v1,v2) tb nm sl nt ds args) (xA k op v0 v1 v2 tb nm sl nt ds (.slice sa args.length sc)) op2 r (D 3) (D 4) (D 6) w') (undef,undef) hH0 ?steps ?rdone
     case steps =>
      intro DD q o r aa W3 hop hDq hcl hdep hA hH;have hq:q<7:=(Array.getElem?_eq_some_iff.1 hop).1
      have:q=0∨q=1∨q=2∨q=3∨q=4∨q=5∨q=6:=by omega
      rcases this with rfl | rfl | rfl | rfl | rfl | rfl | rfl
      all_goals (simp only[List.getElem?_toArray,List.getElem?_cons_zero,List.getElem?_cons_succ,Option.some.injEq] at hop; subst hop)
      · have k10:=hA.keep 10 (by kernel_rfl);exact .inl (.inl ⟨r,W3,by simp,(by simp[execOp,go_sem,k10]),fun _ _=>rfl,hH⟩)
      · have k9:=hA.keep 9 (by kernel_rfl)
        have n4:DD 4=false:=by
         cases h:DD 4
         · rfl
         · have:=hcl 4 _ h rfl ⟨1,.data⟩ (by simp) rfl
           rw[hDq] at this; cases this
        have n5:DD 5=false:=by
         cases h:DD 5
         · rfl
         · have:=hcl 5 _ h rfl ⟨4,.data⟩ (by simp) rfl
           rw[n4] at this; cases this
        have n6:DD 6=false:=by
         cases h:DD 6
         · rfl
         · have:=hcl 6 _ h rfl ⟨5,.data⟩ (by simp) rfl
           rw[n5] at this; cases this
        have hb9c:=hH.2.2.1;rw[n6] at hb9c;simp only at hb9c;obtain⟨p0,p1,p2,p3,p4,p5,p6,p7,p8,p9,p10,_⟩:=aAf hb9c;exact .inl (.inl ⟨r,W3,by simp,(by simp[execOp,go_sem,k9,p0,p1,p2,p3,p4,p5,p6,p7,p8,p9,p10]),fun _ _=>rfl,hH⟩)
      · have k1:=hA.keep 1 (by kernel_rfl);exact .inl (.inl ⟨r,W3,by simp,(by simp[execOp,go_sem,k1]),fun _ _=>rfl,hH⟩)
      · have e2:=hA.was 2 26 rfl (hdep ⟨2,.data⟩ (by simp) rfl) (by simp)
        have n4:DD 4=false:=by
         cases h:DD 4
         · rfl
         · have:=hcl 4 _ h rfl ⟨3,.data⟩ (by simp) rfl
           rw[hDq] at this; cases this
        have n5:DD 5=false:=by
         cases h:DD 5
         · rfl
         · have:=hcl 5 _ h rfl ⟨4,.data⟩ (by simp) rfl
           rw[n4] at this; cases this
        have n6:DD 6=false:=by
         cases h:DD 6
         · rfl
         · have:=hcl 6 _ h rfl ⟨5,.data⟩ (by simp) rfl
           rw[n5] at this; cases this
        rw[hDq,n4,n6] at hH;obtain⟨hK,h8,h9,⟨hPj1,_⟩,hgx⟩:=hH;have l8:=(Array.getElem?_eq_some_iff.1 h8).1;have l9:=(Array.getElem?_eq_some_iff.1 h9).1;have hcp:=hpart W3 (j+1) hPj1
        cases hp:part (j+1) with
        | out=>rw[hp] at hch; exact absurd hch.symm hR
        | stop m =>
         rw[hp] at hcp hch;refine .inr (.inr ⟨g,#[.pointer (some ⟨pb,0,none⟩)],by simp,(by simp[execOp,go_sem,e2,hg]),?_⟩);refine Calls.mono (hcp (fun h=>by cases h)) ?_;rintro e' w4 ⟨rfl,hk4⟩;refine .inr ⟨_,rfl,?_⟩;refine⟨hA.defers,?_⟩;rw[←HR0.out,←hch];exact⟨rfl,hK.trans hk4⟩
        | ok b m =>
         rw[hp] at hcp;refine .inr (.inr ⟨g,#[.pointer (some ⟨pb,0,none⟩)],by simp,(by simp[execOp,go_sem,e2,hg]),?_⟩);refine Calls.mono (hcp (fun h=>by cases h)) ?_;rintro e' w4 ⟨⟨v,rfl,hxb⟩,hk4,hP4⟩;refine .inl ⟨(v,r.2),rfl,fun t ht=>?_,?_⟩
         · match t,ht with
           | 0,_=>rfl
           | 1,_=>rfl
           | 2,_=>rfl
           | 3,h=>rw[hDq] at h; cases h
           | 4,_=>rfl
           | 5,_=>rfl
           | t+6,_=>rfl
         · show aG2 l pb la lc W W.heap.size b9 part j (.mk k op (v0,v1,v2) tb nm sl nt ds args) (xA k op v0 v1 v2 tb nm sl nt ds (.slice sa args.length sc)) op2 (v,r.2) true (DD 4) (DD 6) w4;rw[n4,n6];exact⟨hK.trans hk4,(hk4.heap _ l8 hpb8).trans h8,(hk4.heap _ l9 hpb9).trans h9,⟨b,m,hp,hP4,hxb.mono (fun b hb=>by rcases hb with hb | rfl <;> omega)⟩,fun _=>(hgx rfl).keep hk4 (.inl (by omega)) (fun b hb=>.inl hb)⟩
      · have e1:=hA.was 1 25 rfl (hdep ⟨1,.data⟩ (by simp) rfl) (by simp);have d3:=hdep ⟨3,.data⟩ (by simp) rfl;have e3:=hA.was 3 27 rfl d3 (by simp);have n4:=hDq
        have n5:DD 5=false:=by
         cases h:DD 5
         · rfl
         · have:=hcl 5 _ h rfl ⟨4,.data⟩ (by simp) rfl
           rw[n4] at this; cases this
        have n6:DD 6=false:=by
         cases h:DD 6
         · rfl
         · have:=hcl 6 _ h rfl ⟨5,.data⟩ (by simp) rfl
           rw[n5] at this; cases this
        rw[d3,n4,n6] at hH;obtain⟨hK,h8,h9,⟨b,m,hp,hPm,hxb⟩,hgx⟩:=hH;have l8:=(Array.getElem?_eq_some_iff.1 h8).1;have l9:=(Array.getElem?_eq_some_iff.1 h9).1;have hgx:=hgx rfl;obtain⟨k',op',⟨v0',v1',v2'⟩,tb',nm',sl',nt',ds',args'⟩:=b;obtain⟨sa',sc',hr1,hs'⟩:=hxb.form;obtain⟨r1,r2⟩:=r;simp only at hr1;subst hr1;refine .inl (.inl ⟨(.agg (xA k' op' v0' v1' v2' tb' nm' sl' nt' ds' (.slice sa' args'.length sc')),.slice (some ⟨W3.heap.size,0,none⟩) 2 2),W3.alloc (.cells ((xA k op v0 v1 v2 tb nm sl nt ds (.slice sa args.length sc))++xA k' op' v0' v1' v2' tb' nm' sl' nt' ds' (.slice sa' args'.length sc')) 26),by simp,(by simp[execOp,go_sem,e1,e3]),fun t ht=>?_,?_⟩)
        · match t,ht with
          | 0,_=>rfl
          | 1,_=>rfl
          | 2,_=>rfl
          | 3,_=>rfl
          | 4,h=>rw[hDq] at h; cases h
          | 5,h=>rw[n5] at h; cases h
          | t+6,_=>rfl
        · show aG2 l pb la lc W W.heap.size b9 part j (.mk k op (v0,v1,v2) tb nm sl nt ds args) (xA k op v0 v1 v2 tb nm sl nt ds (.slice sa args.length sc)) op2 _ (DD 3) true (DD 6) _;rw[d3,n6];have hKa:KeepP pb W3 (W3.alloc (.cells ((xA k op v0 v1 v2 tb nm sl nt ds (.slice sa args.length sc))++xA k' op' v0' v1' v2' tb' nm' sl' nt' ds' (.slice sa' args'.length sc')) 26)):=(KeepP.refl pb W3).alloc _;refine⟨hK.trans hKa,(hKa.heap _ l8 hpb8).trans h8,(hKa.heap _ l9 hpb9).trans h9,⟨_,m,hp,hPm.alloc _,?_,_,rfl⟩,fun h=>(by cases h)⟩;refine aBp (l:=[(.mk k op (v0,v1,v2) tb nm sl nt ds args),.mk k' op' (v0',v1',v2') tb' nm' sl' nt' ds' args']) (aAl _ _) (by omega) ?_;rw[List.flatMap_cons,List.flatMap_cons,List.flatMap_nil,List.append_nil,Array.toList_append];exact CVRs.app (aAy ⟨fun b hn hlt=>Below.heap_alloc _ _ _ hlt,fun b hb=>.inl hb,by simp⟩ hgx.cells) (aAy ⟨fun b hn hlt=>Below.heap_alloc _ _ _ hlt,fun b hb=>.inl hb,by simp⟩ hxb.cells)
      · have e0:=hA.was 0 24 rfl (hdep ⟨0,.data⟩ (by simp) rfl) (by simp);have d4:=hdep ⟨4,.data⟩ (by simp) rfl;have d3:=hcl 4 _ d4 rfl ⟨3,.data⟩ (by simp) rfl;have e4:=hA.was 4 28 rfl d4 (by simp);have hH2:=hH;rw[d3,d4] at hH2;obtain⟨_,_,_,⟨_,_,_,_,_,B,hr2⟩,_⟩:=hH2;have hb0:bs []=⟨#[]⟩:=rfl;exact .inl (.inl ⟨r,W3,by simp,(by simp[execOp,go_sem,e0,e4,hr2,hb0]),fun _ _=>rfl,hH⟩)
      · have k9:=hA.keep 9 (by kernel_rfl);have d5:=hdep ⟨5,.data⟩ (by simp) rfl;have d4:=hcl 5 _ d5 rfl ⟨4,.data⟩ (by simp) rfl;have d3:=hcl 4 _ d4 rfl ⟨3,.data⟩ (by simp) rfl;have e5:=hA.was 5 29 rfl d5 (by simp);rw[d3,d4,hDq] at hH;obtain⟨hK,h8,h9,⟨b,m,hp,hPm,hcv,B,hr2⟩,_⟩:=hH;simp only at h9;obtain⟨p0,p1,p2,p3,p4,p5,p6,p7,p8,p9,p10,pf⟩:=aAf h9;obtain⟨r1,r2⟩:=r;simp only at hr2;subst hr2;have l9:=(Array.getElem?_eq_some_iff.1 h9).1;refine .inr (.inl ⟨_,rfl,by simp,(by simp[execOp,go_sem,k9,e5,p0,p1,p2,p3,p4,p5,p6,p7,p8,p9,p10,pf]; rfl),?_⟩);show aG2 l pb la lc W W.heap.size b9 part j (.mk k op (v0,v1,v2) tb nm sl nt ds args) (xA k op v0 v1 v2 tb nm sl nt ds (.slice sa args.length sc)) op2 _ (DD 3) (DD 4) true _;rw[d3,d4];have hA1:=aBD h9 (.int .i64 4) (.string (bs op2)) (.int .i64 0) (.int .i64 0) (.string (bs [])) (.string (bs [])) (.string (bs [])) (.int .i64 0) (.bool false) (.bool false) (.slice (some ⟨B,0,none⟩) 2 2);have hB1:=fun (t:Nat) (ht:t≠b9)=>aAw (w:=W3) ht (.int .i64 4) (.string (bs op2)) (.int .i64 0) (.int .i64 0) (.string (bs [])) (.string (bs [])) (.string (bs [])) (.int .i64 0) (.bool false) (.bool false) (.slice (some ⟨B,0,none⟩) 2 2);have hK1:=aFS hK (g:=b9) (by omega) (.int .i64 4) (.string (bs op2)) (.int .i64 0) (.int .i64 0) (.string (bs [])) (.string (bs [])) (.string (bs [])) (.int .i64 0) (.bool false) (.bool false) (.slice (some ⟨B,0,none⟩) 2 2);generalize hWf:World.setCell _ ⟨b9,10,none⟩ _=Wf at hA1 hB1 hK1 ⊢
        have hzf:Wf.heap.size=W3.heap.size:=by rw[←hWf]; simp
        clear hWf;exact⟨hK1,(hB1 _ (by omega)).trans h8,hA1,⟨b,m,hp,hP.kept hK1 ((hB1 pb (by omega)).trans hPm.cell) hPm.le,hcv.step ⟨fun t hn hlt=>hB1 t (fun e=>hn (.inr e)),fun t ht=>.inl ht,by omega⟩,B,rfl⟩,fun h=>(by cases h)⟩
     case rdone =>
      intro DD r aa W4 hall hA hH;have ha:=hA.eq (goodR.apart (by kernel_rfl)) hall;simp only[aCS,Act.put,List.setIfInBounds_toArray,List.set_cons_zero,List.set_cons_succ] at ha;subst ha;rw[hall 3 (by decide),hall 4 (by decide),hall 6 (by decide)] at hH;obtain⟨hK,h8,h9,⟨b,q,hb,hPq,hcv,B,hr2⟩,_⟩:=hH;clear hA hall;gi_wp2;go_wp2_with fail;rw[hb] at hch;refine⟨⟨n,_,q,hch,hPq,hK,⟨_,h9,GX.mk' hcv⟩,hbb,h8⟩,?_⟩;rw[hPq.atOf,hPj.atOf]
      have:=hge (j+1) b q hb
      omega
end
end
end Go.Proofs.YtcdeimjlgpfjiaaGreatDoor
