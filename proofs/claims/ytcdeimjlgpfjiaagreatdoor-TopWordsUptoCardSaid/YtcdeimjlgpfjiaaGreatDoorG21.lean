/- The parser's regions of drawn order: what stays, and what lies in memory between any two operations. No condition. -/
import Derived.Test.YtcdeimjlgpfjiaaGreatDoorG20
set_option linter.unusedSimpArgs false
set_option linter.unusedVariables false
namespace Go.Proofs.YtcdeimjlgpfjiaaGreatDoor
section
open Go.RowKit Go.IntWalk
structure KeepG (S:Nat→Prop) (w w':World):Prop where
 os:w'.os=w.os
 tape:w'.tape=w.tape
 output:w'.output=w.output
 size:w.heap.size≤w'.heap.size
 heap : ∀ b,b<w.heap.size→¬ S b→w'.heap[b]? = w.heap[b]?
section
variable {S:Nat→Prop} {pb:Nat} {W w w' w'':World}
theorem KeepG.refl:KeepG S w w:=⟨rfl,rfl,rfl,Nat.le_refl _,fun _ _ _=>rfl⟩
theorem KeepG.trans (h:KeepG S w w') (g:KeepG S w' w''):KeepG S w w'' :=
 ⟨g.os.trans h.os,g.tape.trans h.tape,g.output.trans h.output,Nat.le_trans h.size g.size,fun x hx hn=>(g.heap x (Nat.lt_of_lt_of_le hx h.size) hn).trans (h.heap x hx hn)⟩
theorem KeepP.g (h:KeepP pb w w') (hS:S pb):KeepG S w w':=⟨h.os,h.tape,h.output,h.size,fun b hb hn=>h.heap b hb (fun e=>hn (e▸hS))⟩
theorem KeepG.p (g:KeepG S w w') (h:KeepP pb W w) (hS : ∀ b,S b→b=pb∨W.heap.size≤b):KeepP pb W w' :=
 ⟨g.os.trans h.os,g.tape.trans h.tape,g.output.trans h.output,Nat.le_trans h.size g.size,fun b hb hn=>(g.heap b (Nat.lt_of_lt_of_le hb h.size) (fun hs=>by
  rcases hS b hs with e | e
  · exact hn e
  · omega)).trans (h.heap b hb hn)⟩
theorem KeepG.set (h:KeepG S w w') {g:Nat} (hg:S g) (o:Nat) (v:Value):KeepG S w (w'.setCell ⟨g,o,none⟩ v) :=
 ⟨h.os,h.tape,h.output,by rw[World.size_setCell]; exact h.size,fun b h1 h2=>(Below.heap_setCell _ _ _ _ (by show b≠g; exact fun e=>h2 (e▸hg))).trans (h.heap b h1 h2)⟩
theorem KeepG.set11 (h:KeepG S w w') {g:Nat} (hg:S g) (v0 v1 v2 v3 v4 v5 v6 v7 v8 v9 v10:Value):KeepG S w (((((((((((w'.setCell ⟨g,0,none⟩ v0).setCell ⟨g,1,none⟩ v1).setCell ⟨g,2,none⟩ v2).setCell ⟨g,3,none⟩ v3).setCell ⟨g,4,none⟩ v4).setCell ⟨g,5,none⟩ v5).setCell ⟨g,6,none⟩ v6).setCell ⟨g,7,none⟩ v7).setCell ⟨g,8,none⟩ v8).setCell ⟨g,9,none⟩ v9).setCell ⟨g,10,none⟩ v10) :=
 (((((((((((h.set hg 0 _).set hg 1 _).set hg 2 _).set hg 3 _).set hg 4 _).set hg 5 _).set hg 6 _).set hg 7 _).set hg 8 _).set hg 9 _).set hg 10 _)
theorem KeepG.below (h:KeepG S w w') (hB:Below w'.heap.size w' w''):KeepG S w w'':=h.trans ⟨hB.os,hB.tape,hB.output,hB.size,fun b hb _=>hB.block b hb⟩
theorem KeepG.alloc (h:KeepG S w w') (o:Obj):KeepG S w (w'.alloc o):=h.below ((Below.refl _ _).alloc (Nat.le_refl _) _)
theorem KeepG.drew (h:KeepG S w w'):KeepG S w w'.drew:=h.below (Below.refl _ _).drew
theorem KeepG.drewN (h:KeepG S w w') (n:Nat):KeepG S w (w'.drewN n):=h.below (aBd _ _)
theorem KeepG.stays (h:KeepG S w w') {X X':Nat→Prop} (hX : ∀ b,S b→X b) (hX' : ∀ b,X' b→X b∨w.heap.size≤b):Stays X X' w w' :=
 ⟨fun b hn hlt=>h.heap b hlt (fun hs=>hn (hX b hs)),hX',h.size⟩
theorem KeepG.cell (h:KeepG S w w') {p:Addr} (hb:p.block<w.heap.size) (hn : ¬ S p.block):w'.cell? p=w.cell? p:=by
 unfold World.cell?;rw[h.heap p.block hb hn]
theorem KeepG.keepLt (h:KeepG S w w') {b:Nat} {o:Obj} (hb:w.heap[b]? = some o) (hn : ¬ S b):w'.heap[b]? = some o:=(h.heap b (Array.getElem?_eq_some_iff.1 hb).1 hn).trans hb
end
section
variable {l:List Tok} {pb:Nat} {la:Option Addr} {lc:Nat}
def CompPh (l:List Tok) (pb:Nat) (la:Option Addr) (lc:Nat) (W0:World) (g2:Nat) (CE:Value→Array Value) (es:List Xp) (sm:Nat→PR Xp) (j:Nat) (r:Value×Value) (c s st:Bool) (w:World):Prop :=
 KeepG (fun b=>b=pb∨b=g2) W0 w∧w.heap[g2]? = some (.cells (match st with | false=>z11 | true=>CE r.2) 26 (0,0)) ∧
  (match c with
   | false=>PW l pb la lc w j∧s=false
   | true=>∃ (b:Xp) (k:Nat),sm j = .ok b k∧PW l pb la lc w k∧(match s with
    | false=>GX (fun b=>b≤g2) b r.1 w
    | true=>CVR w (fun b=>b≤g2) (.vs (xcs (es++[b]))) r.2∧∃ B,r.2 = .slice (some ⟨B,0,none⟩) (es.length+1) (es.length+1)))
variable {W0:World} {g2:Nat} {CE:Value→Array Value} {es:List Xp} {sm:Nat→PR Xp} {j f:Nat} {r:Value×Value} {w W:World} {i:Nat}
theorem CompPh.call (hH:CompPh l pb la lc W0 g2 CE es sm j r false false false w) (hsm:aAY l pb la lc f sm) (hR:sm j≠.out) (h2:g2<W0.heap.size) (hp:pb<g2) :
 Calls Tryz.prog f #[.pointer (some ⟨pb,0,none⟩)] w fun e w'=>(∃ v,e = .returned v∧CompPh l pb la lc W0 g2 CE es sm j (v,r.2) true false false w')∨∃ q,sm j = .stop q∧e=aOE q∧KeepG (fun b=>b=pb∨b=g2) W0 w':=by
 obtain⟨hK,h8,hPj,_⟩:=hH;have hz:=hK.size;have hC:=hsm w j hPj hR
 cases hr:sm j with
 | out=>exact absurd hr hR
 | stop q =>
  rw[hr] at hC;refine Calls.mono hC ?_;rintro e w' ⟨rfl,hk⟩;exact .inr ⟨q,rfl,rfl,hK.trans (hk.g (.inl rfl))⟩
 | ok b k =>
  rw[hr] at hC;refine Calls.mono hC ?_;rintro e w' ⟨⟨v,rfl,hx⟩,hk,hP'⟩;exact .inl ⟨v,rfl,hK.trans (hk.g (.inl rfl)),(hk.heap g2 (by omega) (by omega)).trans h8,b,k,hr,hP',hx.mono fun b hb=>by omega⟩
theorem CompPh.form (hH:CompPh l pb la lc W0 g2 CE es sm j r true false false w) : ∃ k op v0 v1 v2 tb nm sl nt ds sa n sc,r.1 = .agg (xA k op v0 v1 v2 tb nm sl nt ds (.slice sa n sc)):=by
 obtain⟨_,_,⟨k,op,⟨v0,v1,v2⟩,tb,nm,sl,nt,ds,args⟩,m,_,_,hg⟩:=hH;obtain⟨sa,sc,e,_⟩:=hg.form;exact⟨_,_,_,_,_,_,_,_,_,_,_,_,_,e⟩
theorem CompPh.slice (hH:CompPh l pb la lc W0 g2 CE es sm j r true false false w) (h2:g2<W0.heap.size) (hp:pb<g2) {cs:List Value} (hes:CVRs W0 (fun b=>b≤g2) (es.flatMap Xp.cells) cs) {A B:Array Value} (hA:r.1 = .agg A) (hB:B.toList=cs++A.toList) {n:Nat} (hn:n=es.length+1) :
 CompPh l pb la lc W0 g2 CE es sm j (r.1,.slice (some ⟨w.heap.size,0,none⟩) n n) true true false (w.alloc (.cells B 26)):=by
 subst hn;obtain⟨hK,h8,b,k,hr,hPk,hg⟩:=hH;have hz:=hK.size;have hka:KeepP pb w (w.alloc (.cells B 26)):=(KeepP.refl pb w).alloc _;refine⟨hK.alloc _,(hka.heap g2 (by omega) (by omega)).trans h8,b,k,hr,hPk.alloc _,?_,_,rfl⟩
 have e:es.length+1=(es++[b]).length:=by simp
 rw[e];refine aBp (aAl _ _) (by show ¬ w.heap.size≤g2; omega) ?_;rw[List.flatMap_append,List.flatMap_cons,List.flatMap_nil,List.append_nil,hB];rw[hA] at hg;exact (aAy ((hK.alloc (.cells B 26)).stays (fun b hb=>by rcases hb with rfl | rfl <;> omega) (fun b hb=>.inl hb)) hes).app (aAy ⟨fun b hn hlt=>Below.heap_alloc _ _ _ hlt,fun b hb=>.inl hb,by simp⟩ hg.cells)
theorem CompPh.store {v0 v1 v2 v3 v4 v5 v6 v7 v8 v9:Value} (hH:CompPh l pb la lc W0 g2 (fun s=>#[v0,v1,v2,v3,v4,v5,v6,v7,v8,v9,s]) es sm j r true true false w) (h2:g2<W0.heap.size) (hp:pb<g2) (hPW:PW l pb la lc W i) (hKW:KeepP pb W W0) (hWg:W.heap.size≤g2) {S:Value} (hS:S=r.2) :
 CompPh l pb la lc W0 g2 (fun s=>#[v0,v1,v2,v3,v4,v5,v6,v7,v8,v9,s]) es sm j r true true true (((((((((((w.setCell ⟨g2,0,none⟩ v0).setCell ⟨g2,1,none⟩ v1).setCell ⟨g2,2,none⟩ v2).setCell ⟨g2,3,none⟩ v3).setCell ⟨g2,4,none⟩ v4).setCell ⟨g2,5,none⟩ v5).setCell ⟨g2,6,none⟩ v6).setCell ⟨g2,7,none⟩ v7).setCell ⟨g2,8,none⟩ v8).setCell ⟨g2,9,none⟩ v9).setCell ⟨g2,10,none⟩ S):=by
 subst hS;obtain⟨hK,h8,b,k,hr,hPk,hcv,hB⟩:=hH;have hz:=hK.size;have hA1:=aBD h8 v0 v1 v2 v3 v4 v5 v6 v7 v8 v9 r.2;have hB1:=fun (t:Nat) (ht:t≠g2)=>aAw (w:=w) ht v0 v1 v2 v3 v4 v5 v6 v7 v8 v9 r.2;have hK1:=hK.set11 (g:=g2) (.inr rfl) v0 v1 v2 v3 v4 v5 v6 v7 v8 v9 r.2;generalize hWf:World.setCell _ ⟨g2,10,none⟩ _=Wf at hA1 hB1 hK1 ⊢
 have hzf:Wf.heap.size=w.heap.size:=by rw[←hWf]; simp
 clear hWf;exact⟨hK1,hA1,b,k,hr,hPW.kept (hK1.p hKW (fun b hb=>hb.elim .inl (fun e=>.inr (e▸hWg)))) ((hB1 pb (by omega)).trans hPk.cell) hPk.le,hcv.step ⟨fun t hn hlt=>hB1 t (fun e=>hn (by show t≤g2; omega)),fun t ht=>.inl ht,by omega⟩,hB⟩
end
end
section
open Go.RowKit Go.IntWalk
theorem aNz {w:World} {X:Nat→Prop} {e:Xp} {f:Nat} {cv:CV} {r:Value} (hf:e.cells[f]? = some cv) (h:CVR w X cv r):r.oneCell'=true:=by
 obtain⟨k,op,⟨v0,v1,v2⟩,tb,nm,sl,nt,ds,args⟩:=e
 have key : ∀ v:Value,cv = .v v→v.oneCell'=true→r.oneCell'=true:=fun v e1 e2=>by
  subst e1;cases h;exact e2
 have hm:=List.mem_of_getElem? hf;simp only[Xp.cells,List.mem_cons,List.not_mem_nil,or_false] at hm;rcases hm with h1 | h1 | h1 | h1 | h1 | h1 | h1 | h1 | h1 | h1 | h1
 all_goals first | exact key _ h1 rfl | skip
 subst h1;obtain⟨a,c,rfl⟩:=aCl h;rfl
theorem aRR {w:World} {X:Nat→Prop} {L:List Xp} {v:Value} (h:CVR w X (.vs (xcs L)) v) (hL:0<L.length) : ∃ ad c news,v = .slice (some ad) L.length c∧news.length=L.length*11∧(∀ j u,news[j]? = some u→w.cell? (ad.add j)=some u)∧(∀ u∈news,u.oneCell'=true)∧CVRs w X (L.flatMap Xp.cells) news:=by
 have hlen:=aEc L;rcases aB6 h with ⟨hnil,a,e⟩ | ⟨b,o,sz,c,g,e,hsz,hc,hcell,hval⟩
 · rw[hnil] at hlen;simp at hlen;omega
 · rw[hlen] at e
   have h11:sz=11:=by
    cases L with
    | nil=>simp at hL
    | cons x L=>exact (hsz x.cells (by simp[xcs])).symm.trans (aBG x)
   subst h11
   have hfl:(L.flatMap Xp.cells).length=L.length*11:=by
    clear h hL hlen e hc hcell hval hsz
    induction L with
    | nil=>rfl
    | cons x L ih=>rw[List.flatMap_cons,List.length_append,ih,aBG x,List.length_cons]; omega
   have hel : ∀ i,i<L.length→∃ x,L[i]? = some x∧(xcs L)[i]? = some x.cells:=by
    clear h hL hlen e hc hcell hval hsz hfl
    induction L with
    | nil=>intro i hi; simp at hi
    | cons x L ih =>
     intro i hi
     cases i with
     | zero=>exact⟨x,rfl,rfl⟩
     | succ i =>
      obtain⟨y,h1,h2⟩:=ih i (by simpa using hi);exact⟨y,by simpa using h1,by simpa[xcs] using h2⟩
   have hat : ∀ q,q<L.length*11→∃ x cv,L[q / 11]? = some x∧(xcs L)[q / 11]? = some x.cells∧x.cells[q % 11]? = some cv∧(L.flatMap Xp.cells)[q]? = some cv:=fun q hq=>by
    obtain⟨x,h1,h2⟩:=hel (q / 11) (by omega)
    have h3:q % 11<x.cells.length:=by rw[aBG]; omega
    refine⟨x,x.cells[q % 11],h1,h2,List.getElem?_eq_getElem h3,?_⟩
    have:=(aET L (q / 11) _ (q % 11) _ h2 (List.getElem?_eq_getElem h3)).2
    rw[show q / 11*11+q % 11=q by omega] at this;exact this
   have hnews : ∀ q u,((List.range (L.length*11)).map fun q=>g (q / 11) (q % 11))[q]? = some u→q<L.length*11∧u=g (q / 11) (q % 11):=fun q u hq=>by
    rw[List.getElem?_map] at hq;by_cases hlt:q<L.length*11
    · rw[List.getElem?_range hlt] at hq;exact⟨hlt,by simpa using hq.symm⟩
    · rw[List.getElem?_eq_none (by simpa using hlt)] at hq;cases hq
   refine⟨⟨b,o,none⟩,c,(List.range (L.length*11)).map fun q=>g (q / 11) (q % 11),e,by simp,fun q u hq=>?_,fun u hu=>?_,?_⟩
   · obtain⟨hlt,rfl⟩:=hnews q u hq;obtain⟨x,cv,h1,h2,h3,h4⟩:=hat q hlt
     have:=(hcell _ _ h2 _ _ h3).2
     rw[show o+q / 11*11+q % 11=o+q by omega] at this;unfold Addr.add;split
     · rename_i h0
       have:q=0:=by simpa using h0
       subst this;simpa using ‹w.cell? _=some _›
     · exact this
   · obtain⟨q,hq⟩:=List.getElem?_of_mem hu;obtain⟨hlt,rfl⟩:=hnews q u hq;obtain⟨x,cv,h1,h2,h3,h4⟩:=hat q hlt;exact aNz h3 (hval _ _ h2 _ _ h3)
   · have key : ∀ (cs:List CV) (vs:List Value),cs.length=vs.length→(∀ (q:Nat) (c:CV) (v:Value),cs[q]? = some c→vs[q]? = some v→CVR w X c v)→CVRs w X cs vs:=by
      intro cs
      induction cs with
      | nil=>intro vs hl _; cases vs with
       | nil=>trivial
       | cons _ _=>cases hl
      | cons c cs ih=>intro vs hl hh; cases vs with
       | nil=>cases hl
       | cons v vs=>exact⟨hh 0 c v rfl rfl,ih vs (by simpa using hl) (fun q a b h1 h2=>hh (q+1) a b (by simpa using h1) (by simpa using h2))⟩
     refine key _ _ (by simp[hfl]) (fun q cv u h1 h2=>?_);obtain⟨hlt,rfl⟩:=hnews q u h2;obtain⟨x,cv',g1,g2,g3,g4⟩:=hat q hlt;rw[h1] at g4;injection g4 with g4;subst g4;exact hval _ _ g2 _ _ g3
theorem RowX.growL {base:Nat} {L M:List Xp} {v v':Value} {w w':World} {xs news:List Value} (hc:CVRs w (fun b=>b<base∨v.ownBlock=some b) (L.flatMap Xp.cells) xs)
 (hx:CVRs w (fun b=>b<base∨v.ownBlock=some b) (M.flatMap Xp.cells) news) (h1:w'.ownsRow base 26 11 v' (L.length+M.length) (xs++news)) (h2:w.grownBy w' v.ownBlock) (h3 : ∀ g,v'.ownBlock=some g→v.ownBlock=some g∨w.heap.size≤g) :
 RowX base (L++M) v' w':=by
 have hX : ∀ b,(b<base∨v'.ownBlock=some b)→(b<base∨v.ownBlock=some b)∨w.heap.size≤b:=fun b hb=>by
  rcases hb with hb | hb
  · exact .inl (.inl hb)
  · rcases h3 b hb with h | h
    · exact .inl (.inr h)
    · exact .inr h
 have st:Stays (fun b=>b<base∨v.ownBlock=some b) (fun b=>b<base∨v'.ownBlock=some b) w w':=⟨fun b hn hlt=>h2.block b hlt (fun e=>hn (.inr e.symm)),hX,h2.size⟩;refine⟨xs++news,by rw[List.length_append]; exact h1,?_⟩;rw[List.flatMap_append];exact (aAy st hc).app (aAy st hx)
theorem RowX.append {base:Nat} {L M:List Xp} {v u:Value} {w:World} (h:RowX base L v w) (hu:CVR w (fun b=>b<base∨v.ownBlock=some b) (.vs (xcs M)) u) (hM:0<M.length) (hn:L.length+M.length≤1000000) (hb:base≤w.heap.size) :
 ∃ v' w',(Builtin.append_ #[24,24] 24 #[v,u]).run Tryz.prog w = .ok v' w'∧RowX base (L++M) v' w'∧w.grownBy w' v.ownBlock∧∀ g,v'.ownBlock=some g→v.ownBlock=some g∨w.heap.size≤g:=by
 obtain⟨i0,hi,hi0,hi1,hi2⟩:=info_parts aVu;obtain⟨xs,ho,hc⟩:=h.own;obtain⟨ad,c,news,rfl,hl,hcell,h1c,hnw⟩:=aRR hu hM
 have hmax:maxLen=9223372036854775807:=by decide +kernel
 obtain⟨v',w',hr,r1,r2,r3⟩:=aDr (P:=Tryz.prog) w base 24 24 26 i0 (.agg z11) 11 128 Tryz.underlying24 hi hi0 hi1 hi2 rfl (by decide) v L.length xs ho ad M.length c news hl hcell h1c (by omega) (by omega) hb;exact⟨v',w',hr,RowX.growL hc hnw r1 r2 r3,r2,r3⟩
theorem aJH {l:List Tok} {ex:Nat→PR Xp} : ∀ (n:Nat) (L:List Xp) (i:Nat) (M:List Xp) (j:Nat),aE9 l ex n L i = .ok M j→L.length≤M.length∧M.length≤L.length+n
 | 0,L,i,M,j,h=>by cases h
 | n+1,L,i,M,j,h=>by
  unfold aE9 at h;split at h
  · cases hr:ex (i+1) with
    | out=>rw[hr] at h; cases h
    | stop q=>rw[hr] at h; cases h
    | ok e q =>
     rw[hr] at h
     have:=aJH n (L++[e]) q M j h
     simp only[List.length_append,List.length_cons,List.length_nil] at this;omega
  · cases hm:aAB l 4 [41] i with
    | out=>rw[hm] at h; cases h
    | stop q=>rw[hm] at h; cases h
    | ok u q =>
     rw[hm] at h;injection h with h1 h2;subst h1;omega
theorem aHH {l:List Tok} {ex:Nat→PR Xp} {i:Nat} {M:List Xp} {j:Nat} (h:aCw l ex i = .ok M j):0<M.length∧M.length≤l.length+2:=by
 unfold aCw at h
 cases hr:ex i with
 | out=>rw[hr] at h; cases h
 | stop q=>rw[hr] at h; cases h
 | ok e q =>
  rw[hr] at h
  have:=aJH _ [e] q M j h
  simp only[List.length_cons,List.length_nil] at this;omega
section
variable {l:List Tok} {pb:Nat} {la:Option Addr} {lc:Nat}
def InPh (l:List Tok) (pb:Nat) (la:Option Addr) (lc:Nat) (W0:World) (g2:Nat) (CE:Value→Array Value) (e:Xp) (ex:Nat→PR Xp) (j:Nat) (r:Value×Value×Value) (a c p st:Bool) (w:World):Prop :=
 KeepG (fun b=>b=pb∨b=g2) W0 w∧w.heap[g2]? = some (.cells (match st with | false=>z11 | true=>CE r.2.2) 26 (0,0)) ∧
  (match p with
   | false=>(a=true→RowX (g2+1) [e] r.1 w∧∃ B,r.1 = .slice (some ⟨B,0,none⟩) 1 1∧W0.heap.size≤B) ∧
    (match c with
     | false=>PW l pb la lc w j
     | true=>∃ L k,aCw l ex j = .ok L k∧PW l pb la lc w k∧CVR w (fun b=>b<g2+1∨(a=true∧r.1.ownBlock=some b)) (.vs (xcs L)) r.2.1)
   | true=>∃ L k,aCw l ex j = .ok L k∧PW l pb la lc w k∧CVR w (fun b=>b<g2+1) (.vs (xcs (e::L))) r.2.2∧∃ A B,r.2.2 = .slice A (L.length+1) B)
variable {W0:World} {g2:Nat} {CE:Value→Array Value} {e:Xp} {ex:Nat→PR Xp} {j:Nat} {r:Value×Value×Value} {w W:World} {i:Nat} {a c:Bool}
theorem InPh.slice (hH:InPh l pb la lc W0 g2 CE e ex j r false c false false w) (h2:g2<W0.heap.size) (hp:pb<g2) {A:Array Value} (hA:A.size=11) (hx:CVRs W0 (fun b=>b≤g2) e.cells A.toList) :
 InPh l pb la lc W0 g2 CE e ex j (.slice (some ⟨w.heap.size,0,none⟩) 1 1,r.2) true c false false (w.alloc (.cells A 26)):=by
 obtain⟨hK,h8,_,hc⟩:=hH;have hz:=hK.size;have hka:KeepP pb w (w.alloc (.cells A 26)):=(KeepP.refl pb w).alloc _
 have st:Stays (fun b=>b<g2+1∨(false=true∧r.1.ownBlock=some b)) (fun b=>b<g2+1∨(true=true∧(Value.slice (some ⟨w.heap.size,0,none⟩) 1 1).ownBlock=some b)) w (w.alloc (.cells A 26)) :=
  ⟨fun b hn hlt=>Below.heap_alloc _ _ _ hlt,fun b hb=>by
   rcases hb with hb | ⟨_,hb⟩
   · exact .inl (.inl hb)
   · simp only[Value.ownBlock,Option.some.injEq] at hb
     exact .inr (by omega),by simp⟩
 refine⟨hK.alloc _,(hka.heap g2 (by omega) (by omega)).trans h8,fun _=>⟨⟨A.toList,⟨by simp[hA],.inr ⟨w.heap.size,1,A,rfl,by omega,aAl _ _,Nat.le_refl _,by decide,by simp[hA],List.take_of_length_le (by simp[hA])⟩⟩,?_⟩,w.heap.size,rfl,by omega⟩,?_⟩
 · rw[List.flatMap_cons,List.flatMap_nil,List.append_nil];refine aAy ((hK.alloc _).stays (X:=fun b=>b≤g2) (fun b hb=>by rcases hb with rfl | rfl <;> omega) (fun b hb=>?_)) hx;rcases hb with hb | hb
   · exact .inl (by omega)
   · simp only[Value.ownBlock,Option.some.injEq] at hb;exact .inr (by omega)
 · cases c with
   | false=>exact hc.alloc _
   | true =>
    obtain⟨L,k,hr,hPk,hcv⟩:=hc;exact⟨L,k,hr,hPk.alloc _,hcv.step st⟩
theorem InPh.call (hH:InPh l pb la lc W0 g2 CE e ex j r a false false false w) (hls:PW l pb la lc w j→Calls Tryz.prog 142 #[.pointer (some ⟨pb,0,none⟩)] w (aDJ l pb la lc w (fun L v w'=>CVR w' (fun b=>b<w.heap.size) (.vs (xcs L)) v) (aCw l ex j))) (hR:aCw l ex j≠.out) (h2:g2<W0.heap.size) (hp:pb<g2) :
 Calls Tryz.prog 142 #[.pointer (some ⟨pb,0,none⟩)] w fun e' w'=>(∃ v,e' = .returned v∧InPh l pb la lc W0 g2 CE e ex j (r.1,v,r.2.2) a true false false w')∨∃ q,aCw l ex j = .stop q∧e'=aOE q∧KeepG (fun b=>b=pb∨b=g2) W0 w':=by
 obtain⟨hK,h8,ha,hPj⟩:=hH;have hz:=hK.size;have hC:=hls hPj
 cases hr:aCw l ex j with
 | out=>exact absurd hr hR
 | stop q =>
  rw[hr] at hC;refine Calls.mono hC ?_;rintro e' w' ⟨rfl,hk⟩;exact .inr ⟨q,rfl,rfl,hK.trans (hk.g (.inl rfl))⟩
 | ok L k =>
  rw[hr] at hC;refine Calls.mono hC ?_;rintro e' w' ⟨⟨v,rfl,hx⟩,hk,hP'⟩;refine .inl ⟨v,rfl,hK.trans (hk.g (.inl rfl)),(hk.heap g2 (by omega) (by omega)).trans h8,fun h=>⟨(ha h).1.keep hk (by omega),(ha h).2⟩,L,k,hr,hP',hx.mono fun b hb=>?_⟩;rcases hb with hb | ⟨h,hb⟩
  · show b<w.heap.size;omega
  · obtain⟨xs,ho,_⟩:=(ha h).1.own;exact (ho.lt b hb).2
theorem InPh.append (hH:InPh l pb la lc W0 g2 CE e ex j r true true false false w) (h2:g2<W0.heap.size) (hp:pb<g2) (hPW:PW l pb la lc W i) (hKW:KeepP pb W W0) (hWg:W.heap.size≤g2) :
 ∃ v' w',(Builtin.append_ #[24,24] 24 #[r.1,r.2.1]).run Tryz.prog w = .ok v' w'∧InPh l pb la lc W0 g2 CE e ex j (r.1,r.2.1,v') true true true false w':=by
 obtain⟨hK,h8,ha,L,k,hr,hPk,hcv⟩:=hH;have hz:=hK.size;obtain⟨hrow,B,hB,hB0⟩:=ha rfl;obtain⟨hl0,hl1⟩:=aHH hr;have hbig:=hPk.big;obtain⟨v',w',hrun,hrow',hgr,hwh⟩:=hrow.append (hcv.mono (fun b hb=>hb.imp id (fun h=>⟨rfl,h⟩))) hl0 (by simp only[List.length_cons,List.length_nil]; omega) (by omega)
 have hne : ∀ b,b<W0.heap.size→some b≠r.1.ownBlock:=fun b hb e=>by
  rw[hB] at e;simp only[Value.ownBlock,Option.some.injEq] at e;omega
 have hK':KeepG (fun b=>b=pb∨b=g2) W0 w':=⟨hgr.os.trans hK.os,hgr.tape.trans hK.tape,hgr.output.trans hK.output,Nat.le_trans hK.size hgr.size,fun b hb hn=>(hgr.block b (by omega) (hne b hb)).trans (hK.heap b hb hn)⟩;have hpb:=(hgr.block pb (by omega) (hne pb (by omega))).trans hPk.cell;refine⟨v',w',hrun,hK',(hgr.block g2 (by omega) (hne g2 h2)).trans h8,L,k,hr,?_,hrow'.read,?_⟩
 · exact hPW.kept (hK'.p hKW (fun b hb=>hb.elim .inl (fun e=>.inr (e▸hWg)))) hpb hPk.le
 · obtain⟨A,C,e1⟩:=hrow'.form;exact⟨A,C,e1⟩
theorem InPh.store {v0 v1 v2 v3 v4 v5 v6 v7 v8 v9:Value} (hH:InPh l pb la lc W0 g2 (fun s=>#[v0,v1,v2,v3,v4,v5,v6,v7,v8,v9,s]) e ex j r true true true false w) (h2:g2<W0.heap.size) (hp:pb<g2) (hPW:PW l pb la lc W i) (hKW:KeepP pb W W0) (hWg:W.heap.size≤g2) {S:Value} (hS:S=r.2.2) :
 InPh l pb la lc W0 g2 (fun s=>#[v0,v1,v2,v3,v4,v5,v6,v7,v8,v9,s]) e ex j r true true true true (((((((((((w.setCell ⟨g2,0,none⟩ v0).setCell ⟨g2,1,none⟩ v1).setCell ⟨g2,2,none⟩ v2).setCell ⟨g2,3,none⟩ v3).setCell ⟨g2,4,none⟩ v4).setCell ⟨g2,5,none⟩ v5).setCell ⟨g2,6,none⟩ v6).setCell ⟨g2,7,none⟩ v7).setCell ⟨g2,8,none⟩ v8).setCell ⟨g2,9,none⟩ v9).setCell ⟨g2,10,none⟩ S):=by
 subst hS;obtain⟨hK,h8,L,k,hr,hPk,hcv,hB⟩:=hH;have hz:=hK.size;have hA1:=aBD h8 v0 v1 v2 v3 v4 v5 v6 v7 v8 v9 r.2.2;have hB1:=fun (t:Nat) (ht:t≠g2)=>aAw (w:=w) ht v0 v1 v2 v3 v4 v5 v6 v7 v8 v9 r.2.2;have hK1:=hK.set11 (g:=g2) (.inr rfl) v0 v1 v2 v3 v4 v5 v6 v7 v8 v9 r.2.2;generalize hWf:World.setCell _ ⟨g2,10,none⟩ _=Wf at hA1 hB1 hK1 ⊢
 have hzf:Wf.heap.size=w.heap.size:=by rw[←hWf]; simp
 clear hWf;exact⟨hK1,hA1,L,k,hr,hPW.kept (hK1.p hKW (fun b hb=>hb.elim .inl (fun e=>.inr (e▸hWg)))) ((hB1 pb (by omega)).trans hPk.cell) hPk.le,hcv.step ⟨fun t hn hlt=>hB1 t (fun e=>hn (by show t<g2+1; omega)),fun t ht=>.inl ht,by omega⟩,hB⟩
end
end
section
open Go.RowKit Go.IntWalk
theorem RowX.keepG {S:Nat→Prop} {base:Nat} {L:List Xp} {v:Value} {w w':World} (h:RowX base L v w) (hK:KeepG S w w') (hp : ∀ b,S b→b<base):RowX base L v w':=by
 obtain⟨xs,⟨hl,ho⟩,hc⟩:=h.own;refine⟨xs,⟨hl,ho.imp id ?_⟩,aAy ⟨fun b hn hlt=>hK.heap b hlt (fun e=>hn (.inl (hp b e))),fun b hb=>.inl hb,hK.size⟩ hc⟩;rintro⟨g,cap,cur,e,hb,hg,r⟩;exact⟨g,cap,cur,e,hb,(hK.heap g (Array.getElem?_eq_some_iff.1 hg).1 (fun e=>by have:=hp g e; omega)).trans hg,r⟩
theorem RowX.nil {base:Nat} {w:World}:RowX base [] (.slice none 0 0) w:=⟨[],World.ownsRow_nil w base _ _,trivial⟩
def aHS (l:List Tok) (ex:Nat→PR Xp) (ds:Bool) (L:List Xp) (m:Nat):PR Xp :=
 (if isP l m 2 [101,108,115,101]=true then (ex (m+1)).bind fun e q=>.ok (L++[e]) q else .ok L m).bind fun L' q=>(aAB l 2 [101,110,100] q).bind fun _ r=>.ok (.mk 9 [] nul [] [] 0 false ds L') r
theorem aC8 {l:List Tok} {ex:Nat→PR Xp} {ds:Bool} {n:Nat} {L:List Xp} {i:Nat}:aCa l ex ds (n+1) L i=(ex i).bind fun w j=>(aAB l 2 [116,104,101,110] j).bind fun _ k=>(ex k).bind fun t m=>if isP l m 2 [119,104,101,110]=true then aCa l ex ds n (L++([w]++[t])) (m+1) else aHS l ex ds (L++([w]++[t])) m:=rfl
section
variable {l:List Tok} {pb:Nat} {la:Option Addr} {lc:Nat}
abbrev aR7 (ds:Bool) (v:Value):Array Value:=#[.int .i64 9,.string ⟨#[]⟩,.int .i64 0,.int .i64 0,.string ⟨#[]⟩,.string ⟨#[]⟩,.string ⟨#[]⟩,.int .i64 0,.bool false,.bool ds,v]
def CaseI (l:List Tok) (pb:Nat) (la:Option Addr) (lc:Nat) (W:World) (ds:Bool) (L:List Xp) (v:Value) (j:Nat) (w:World):Prop :=
 PW l pb la lc w j∧KeepP pb W w∧w.heap[W.heap.size]? = some (.cells z11 26 (0,0))∧w.heap[W.heap.size+1]? = some (.cells (aR7 ds v) 26 (0,0))∧RowX (W.heap.size+2) L v w∧L.length≤j
def CasePh (l:List Tok) (pb:Nat) (la:Option Addr) (lc:Nat) (W W0:World) (ds:Bool) (v0:Value) (L es:List Xp) (ex:Nat→PR Xp) (j:Nat) (r:Value×Value×Value) (c s a st:Bool) (w:World):Prop :=
 KeepP pb W w∧w.heap[W.heap.size]? = some (.cells z11 26 (0,0))∧w.heap[W.heap.size+1]? = some (.cells (aR7 ds (match st with | false=>v0 | true=>r.2.2)) 26 (0,0)) ∧
  (match a with
   | false=>KeepP pb W0 w∧RowX (W.heap.size+2) L v0 w∧(match c with
    | false=>PW l pb la lc w j∧s=false
    | true=>∃ (b:Xp) (k:Nat),ex j = .ok b k∧PW l pb la lc w k∧(match s with
     | false=>GX (fun b=>b<W.heap.size+2∨v0.ownBlock=some b) b r.1 w
     | true=>CVR w (fun b=>b<W.heap.size+2∨v0.ownBlock=some b) (.vs (xcs (es++[b]))) r.2.1∧∃ B,r.2.1 = .slice (some ⟨B,0,none⟩) (es.length+1) (es.length+1)))
   | true=>∃ (b:Xp) (k:Nat),ex j = .ok b k∧PW l pb la lc w k∧RowX (W.heap.size+2) (L++(es++[b])) r.2.2 w)
variable {W W0:World} {ds:Bool} {v0:Value} {L es:List Xp} {ex:Nat→PR Xp} {j i:Nat} {r:Value×Value×Value} {w:World}
theorem CasePh.call (hH:CasePh l pb la lc W W0 ds v0 L es ex j r false false false false w) (hex:aAY l pb la lc 37 ex) (hR:ex j≠.out) (hp:pb<W.heap.size) (hz0:W.heap.size+2≤w.heap.size) :
 Calls Tryz.prog 37 #[.pointer (some ⟨pb,0,none⟩)] w fun e w'=>(∃ v,e = .returned v∧CasePh l pb la lc W W0 ds v0 L es ex j (v,r.2) true false false false w')∨∃ q,ex j = .stop q∧e=aOE q∧KeepP pb W w':=by
 obtain⟨hK,h2,h3,hK0,hrow,hPj,_⟩:=hH;have hC:=hex w j hPj hR
 cases hr:ex j with
 | out=>exact absurd hr hR
 | stop q =>
  rw[hr] at hC;refine Calls.mono hC ?_;rintro e w' ⟨rfl,hk⟩;exact .inr ⟨q,rfl,rfl,hK.trans hk⟩
 | ok b k =>
  rw[hr] at hC;refine Calls.mono hC ?_;rintro e w' ⟨⟨v,rfl,hx⟩,hk,hP'⟩;refine .inl ⟨v,rfl,hK.trans hk,(hk.heap _ (by omega) (by omega)).trans h2,(hk.heap _ (by omega) (by omega)).trans h3,hK0.trans hk,hrow.keep hk (by omega),b,k,hr,hP',hx.mono fun b hb=>?_⟩;rcases hb with hb | hb
  · show b<w.heap.size;omega
  · obtain⟨xs,ho,_⟩:=hrow.own;exact (ho.lt b hb).2
theorem CasePh.form (hH:CasePh l pb la lc W W0 ds v0 L es ex j r true false false false w) : ∃ k op v0 v1 v2 tb nm sl nt ds sa n sc,r.1 = .agg (xA k op v0 v1 v2 tb nm sl nt ds (.slice sa n sc)):=by
 obtain⟨_,_,_,_,_,⟨k,op,⟨v0,v1,v2⟩,tb,nm,sl,nt,ds,args⟩,m,_,_,hg⟩:=hH;obtain⟨sa,sc,e,_⟩:=hg.form;exact⟨_,_,_,_,_,_,_,_,_,_,_,_,_,e⟩
theorem CasePh.slice (hH:CasePh l pb la lc W W0 ds v0 L es ex j r true false false false w) (hp:pb<W.heap.size) (hz0:W.heap.size+2≤w.heap.size) {cs:List Value} (hes:CVRs W0 (fun b=>b<W.heap.size+2∨v0.ownBlock=some b) (es.flatMap Xp.cells) cs) {A B:Array Value} (hA:r.1 = .agg A) (hB:B.toList=cs++A.toList) {n:Nat} (hn:n=es.length+1) :
 CasePh l pb la lc W W0 ds v0 L es ex j (r.1,.slice (some ⟨w.heap.size,0,none⟩) n n,r.2.2) true true false false (w.alloc (.cells B 26)):=by
 subst hn;obtain⟨hK,h2,h3,hK0,hrow,b,k,hr,hPk,hg⟩:=hH;have hka:KeepP pb w (w.alloc (.cells B 26)):=(KeepP.refl pb w).alloc _
 have hX : ¬ (w.heap.size<W.heap.size+2∨v0.ownBlock=some w.heap.size):=by
  rintro (h | h)
  · omega
  · obtain⟨xs,ho,_⟩:=hrow.own
    have:=(ho.lt _ h).2
    omega
 refine⟨hK.alloc _,(hka.heap _ (by omega) (by omega)).trans h2,(hka.heap _ (by omega) (by omega)).trans h3,hK0.alloc _,hrow.keep hka (by omega),b,k,hr,hPk.alloc _,?_,_,rfl⟩
 have e:es.length+1=(es++[b]).length:=by simp
 rw[e];refine aBp (aAl _ _) hX ?_;rw[List.flatMap_append,List.flatMap_cons,List.flatMap_nil,List.append_nil,hB];rw[hA] at hg;exact (aAy ⟨fun b hn hlt=>(hK0.alloc _).heap b hlt (fun e=>hn (.inl (by omega))),fun b hb=>.inl hb,(hK0.alloc _).size⟩ hes).app (aAy ⟨fun b hn hlt=>Below.heap_alloc _ _ _ hlt,fun b hb=>.inl hb,by simp⟩ hg.cells)
theorem CasePh.append (hH:CasePh l pb la lc W W0 ds v0 L es ex j r true true false false w) (hp:pb<W.heap.size) (hz0:W.heap.size+2≤w.heap.size) (hPW:PW l pb la lc W i) (hn:L.length+(es.length+1)≤1000000) :
 ∃ v' w',(Builtin.append_ #[24,24] 24 #[v0,r.2.1]).run Tryz.prog w = .ok v' w'∧CasePh l pb la lc W W0 ds v0 L es ex j (r.1,r.2.1,v') true true true false w':=by
 obtain⟨hK,h2,h3,hK0,hrow,b,k,hr,hPk,hcv,B,hB⟩:=hH;obtain⟨v',w',hrun,hrow',hgr,hwh⟩:=hrow.append hcv (by simp) (by rw[List.length_append]; exact hn) hz0
 have hne : ∀ b,b<W.heap.size+2→some b≠v0.ownBlock:=fun b hb e=>by
  obtain⟨xs,ho,_⟩:=hrow.own
  have:=(ho.lt b e.symm).1
  omega
 have hK':KeepP pb W w':=⟨hgr.os.trans hK.os,hgr.tape.trans hK.tape,hgr.output.trans hK.output,Nat.le_trans hK.size hgr.size,fun b h1 h2=>(hgr.block b (by have:=hK.size; omega) (hne b (by omega))).trans (hK.heap b h1 h2)⟩;exact⟨v',w',hrun,hK',(hgr.block _ (by omega) (hne _ (by omega))).trans h2,(hgr.block _ (by omega) (hne _ (by omega))).trans h3,b,k,hr,hPW.kept hK' ((hgr.block pb (by omega) (hne pb (by omega))).trans hPk.cell) hPk.le,hrow'⟩
theorem CasePh.store (hH:CasePh l pb la lc W W0 ds v0 L es ex j r true true true false w) (hp:pb<W.heap.size) (hPW:PW l pb la lc W i) {S:Value} (hS:S=r.2.2) :
 CasePh l pb la lc W W0 ds v0 L es ex j r true true true true (w.setCell ⟨W.heap.size+1,10,none⟩ S):=by
 subst hS;obtain⟨hK,h2,h3,b,k,hr,hPk,hrow⟩:=hH;have hK1:KeepP pb W (w.setCell ⟨W.heap.size+1,10,none⟩ r.2.2):=hK.set (by omega) _ _;have ho : ∀ t,t≠W.heap.size+1→(w.setCell ⟨W.heap.size+1,10,none⟩ r.2.2).heap[t]? = w.heap[t]?:=fun t ht=>Below.heap_setCell _ _ _ _ ht;have hs:=Go.heap_setCell_same w (W.heap.size+1) 10 _ _ r.2.2 h3;refine⟨hK1,(ho _ (by omega)).trans h2,by simpa using hs,b,k,hr,hPW.kept hK1 ((ho pb (by omega)).trans hPk.cell) hPk.le,?_⟩;exact hrow.keepG (S:=fun b=>b=W.heap.size+1) (KeepG.set (S:=fun b=>b=W.heap.size+1) KeepG.refl rfl _ _) (fun b hb=>by omega)
end
end
end Go.Proofs.YtcdeimjlgpfjiaaGreatDoor
