/- The plain parser: places grow, enough fuel suffices. No condition. -/
import Derived.Test.YtcdeimjlgpfjiaaGreatDoorG21
import Derived.Test.YtcdeimjlgpfjiaaGreatDoorG25
import Derived.Test.YtcdeimjlgpfjiaaGreatDoorG22
import Derived.Test.YtcdeimjlgpfjiaaGreatDoorG24
import Derived.Test.YtcdeimjlgpfjiaaGreatDoorG12
import Derived.Test.YtcdeimjlgpfjiaaGreatDoorG13
set_option linter.unusedSimpArgs false
set_option linter.unusedVariables false
namespace Go.Proofs.YtcdeimjlgpfjiaaGreatDoor
section
open Go.RowKit Go.IntWalk
section
variable {α β:Type}
theorem aAj {x:PR α} {f:α→Nat→PR β} {b:β} {k:Nat} (h:x.bind f = .ok b k) : ∃ a j,x = .ok a j∧f a j = .ok b k:=by
 cases x with
 | ok a j=>exact⟨a,j,rfl,h⟩
 | stop j=>cases h
 | out=>cases h
theorem aAE {x:PR α} {f:α→Nat→PR β} (h1:x≠.out) (h2 : ∀ a j,x = .ok a j→f a j≠.out):x.bind f≠.out:=by
 cases x with
 | ok a j=>exact h2 a j rfl
 | stop j=>intro h; cases h
 | out=>exact absurd rfl h1
end
section
variable {l:List Tok}
def Lt {α:Type} (l:List Tok) (r:Nat→PR α):Prop:=∀ i e j,r i = .ok e j→i<j∧(i≤l.length→j≤l.length)
theorem aBq {k:Int} {s:List UInt8} {i:Nat} {u:Unit} {m:Nat} (h:aAB l k s i = .ok u m):m=i+1∧i<l.length:=by
 unfold aAB at h;split at h
 · rename_i h0;injection h with h1 h2;exact⟨h2.symm,aA3 h0⟩
 · cases h
theorem aB7 {k:Int} {s:List UInt8} {i:Nat}:aAB l k s i≠.out:=by
 unfold aAB
 split <;> exact fun h=>by cases h
theorem aGS {k:Int} {i:Nat} (h:aBg l k i=true):i<l.length:=by
 unfold aBg at h;simp only[Bool.and_eq_true,decide_eq_true_eq] at h;exact h.1
theorem aKn {part:Nat→PR Xp} {k:Int} {ops:List (List UInt8)} (h:Lt l part) : ∀ n e i e' j,aDB l part k ops n e i = .ok e' j→i≤j∧(i≤l.length→j≤l.length)
 | 0,e,i,e',j,hr=>by cases hr
 | n+1,e,i,e',j,hr=>by
  unfold aDB at hr;split at hr
  · injection hr with h1 h2;subst h2;exact⟨Nat.le_refl _,id⟩
  · rename_i op ho;have hi:=aDm ho;obtain⟨b,m,hb,hr⟩:=aAj hr;have h1:=h _ _ _ hb;have h2:=aKn h n _ _ _ _ hr;omega
theorem aEZ {part:Nat→PR Xp} {k:Int} {ops:List (List UInt8)} (h:Lt l part):Lt l (aBt l part k ops):=by
 intro i e j hr;obtain⟨b,m,hb,hr⟩:=aAj hr;have h1:=h _ _ _ hb;have h2:=aKn h _ _ _ _ _ hr;omega
theorem aJt {part:Nat→PR Xp} {k:Int} {ops:List (List UInt8)} (h:Lt l part) : ∀ n e i,i≤l.length→l.length - i<n→(∀ p,i<p→p≤l.length→part p≠.out)→aDB l part k ops n e i≠.out
 | 0,e,i,_,hn,_=>by omega
 | n+1,e,i,hi,hn,hp=>by
  unfold aDB;split
  · exact fun h=>by cases h
  · rename_i op ho;have hi:=aDm ho;refine aAE (hp _ (by omega) (by omega)) fun b m hb=>?_;have h1:=h _ _ _ hb;exact aJt h n _ _ (by omega) (by omega) (fun p h2 h3=>hp p (by omega) h3)
theorem aEW {part:Nat→PR Xp} {k:Int} {ops:List (List UInt8)} {i:Nat} (h:Lt l part) (hi:i≤l.length) (hp : ∀ p,i≤p→p≤l.length→part p≠.out):aBt l part k ops i≠.out:=by
 refine aAE (hp _ (Nat.le_refl _) hi) fun b m hb=>?_;have h1:=h _ _ _ hb;exact aJt h _ _ _ (by omega) (by omega) (fun p h2 h3=>hp p (by omega) h3)
theorem aMF {ex:Nat→PR Xp} (h:Lt l ex) : ∀ n L i M j,aE9 l ex n L i = .ok M j→i<j∧(i≤l.length→j≤l.length)
 | 0,L,i,M,j,hr=>by cases hr
 | n+1,L,i,M,j,hr=>by
  unfold aE9 at hr;split at hr
  · rename_i h0;have hi:=aA3 h0;obtain⟨b,m,hb,hr⟩:=aAj hr;have h1:=h _ _ _ hb;have h2:=aMF h n _ _ _ _ hr;omega
  · obtain⟨b,m,hb,hr⟩:=aAj hr;have h1:=aBq hb;injection hr with h2 h3;omega
theorem aQh {ex:Nat→PR Xp} (h:Lt l ex):Lt l (aCw l ex):=by
 intro i e j hr;obtain⟨b,m,hb,hr⟩:=aAj hr;have h1:=h _ _ _ hb;have h2:=aMF h _ _ _ _ _ hr;omega
theorem aMS {ex:Nat→PR Xp} (h:Lt l ex) : ∀ n L i,i≤l.length→l.length - i<n→(∀ p,i<p→p≤l.length→ex p≠.out)→aE9 l ex n L i≠.out
 | 0,L,i,_,hn,_=>by omega
 | n+1,L,i,hi,hn,hp=>by
  unfold aE9;split
  · rename_i h0;have hi:=aA3 h0;refine aAE (hp _ (by omega) (by omega)) fun b m hb=>?_;have h1:=h _ _ _ hb;exact aMS h n _ _ (by omega) (by omega) (fun p h2 h3=>hp p (by omega) h3)
  · exact aAE aB7 fun _ _ _ h=>by cases h
theorem aOK {ex:Nat→PR Xp} {i:Nat} (h:Lt l ex) (hi:i≤l.length) (hp : ∀ p,i≤p→p≤l.length→ex p≠.out):aCw l ex i≠.out:=by
 refine aAE (hp _ (Nat.le_refl _) hi) fun b m hb=>?_;have h1:=h _ _ _ hb;exact aMS h _ _ _ (by omega) (by omega) (fun p h2 h3=>hp p (by omega) h3)
theorem aTE {ex:Nat→PR Xp} (h:Lt l ex) (op:List UInt8):Lt l (aFA l ex op):=by
 intro i e j hr;unfold aFA at hr;split at hr
 · split at hr
   · rename_i h0 h1
     have:=aA3 h1.2
     obtain⟨b,m,hb,hr⟩:=aAj hr;have h1:=aBq hb;injection hr with h2 h3;omega
   · obtain⟨b,m,hb,hr⟩:=aAj hr;obtain⟨c,q,hc,hr⟩:=aAj hr;have h1:=h _ _ _ hb;have h2:=aBq hc;injection hr with h3 h4;split at h1
     · omega
     · omega
 · split at hr
   · rename_i h0 h1
     have:=aA3 h1
     injection hr with h2 h3;omega
   · obtain⟨b,m,hb,hr⟩:=aAj hr;have h1:=aQh h _ _ _ hb;injection hr with h3 h4;omega
theorem aUf {ex:Nat→PR Xp} {op:List UInt8} {i:Nat} (h:Lt l ex) (hi:i≤l.length) (hp : ∀ p,i≤p→p≤l.length→ex p≠.out):aFA l ex op i≠.out:=by
 unfold aFA;split
 · split
   · exact aAE aB7 fun _ _ _ h=>by cases h
   · refine aAE ?_ fun _ _ _=>aAE aB7 fun _ _ _ h=>by cases h
     split
     · rename_i h1
       have:=aA3 h1
       exact hp _ (by omega) (by omega)
     · exact hp _ (by omega) hi
 · split
   · exact fun h=>by cases h
   · exact aAE (aOK h hi hp) fun _ _ _ h=>by cases h
theorem aRv {ex:Nat→PR Xp} (h:Lt l ex) (s:List UInt8) {i:Nat} {e:Xp} {j:Nat} (hr:aCZ l ex s i = .ok e j):i≤j∧(i≤l.length→j≤l.length):=by
 unfold aCZ at hr;split at hr
 · split at hr
   · rename_i h0 h1
     have:=aGS h1
     injection hr with h2 h3;omega
   · cases hr
 · split at hr
   · rename_i h0 h1
     have:=aA3 h1
     have h2:=aTE h _ _ _ _ hr;omega
   · injection hr with h2 h3;omega
theorem aRr {ex:Nat→PR Xp} {s:List UInt8} {i:Nat} (h:Lt l ex) (hi:i≤l.length) (hp : ∀ p,i≤p→p≤l.length→ex p≠.out):aCZ l ex s i≠.out:=by
 unfold aCZ;split
 · split <;> exact fun h=>by cases h
 · split
   · rename_i h0 h1
     have:=aA3 h1
     exact aUf h (by omega) (fun p h2 h3=>hp p (by omega) h3)
   · exact fun h=>by cases h
theorem aTt {ex:Nat→PR Xp} (h:Lt l ex) {ds:Bool} {L:List Xp} {i:Nat} {e:Xp} {j:Nat} (hr:aHS l ex ds L i = .ok e j):i<j∧(i≤l.length→j≤l.length):=by
 unfold aHS at hr;obtain⟨b,m,hb,hr⟩:=aAj hr;obtain⟨c,q,hc,hr⟩:=aAj hr;have h1:=aBq hc;injection hr with h2 h3;split at hb
 · rename_i h0
   have:=aA3 h0
   obtain⟨d,r,hd,hb⟩:=aAj hb;have h4:=h _ _ _ hd;injection hb with h5 h6;omega
 · injection hb with h5 h6;omega
theorem aTk {ex:Nat→PR Xp} {ds:Bool} {L:List Xp} {i:Nat} (hi:i≤l.length) (hp : ∀ p,i<p→p≤l.length→ex p≠.out):aHS l ex ds L i≠.out:=by
 unfold aHS
 refine aAE ?_ fun _ _ _=>aAE aB7 fun _ _ _ h=>by cases h
 split
 · rename_i h0
   have:=aA3 h0
   exact aAE (hp _ (by omega) (by omega)) fun _ _ _ h=>by cases h
 · exact fun h=>by cases h
theorem aKp {ex:Nat→PR Xp} (h:Lt l ex) {ds:Bool} : ∀ n L i M j,aCa l ex ds n L i = .ok M j→i<j∧(i≤l.length→j≤l.length)
 | 0,L,i,M,j,hr=>by cases hr
 | n+1,L,i,M,j,hr=>by
  rw[aC8] at hr;obtain⟨b,m,hb,hr⟩:=aAj hr;obtain⟨c,q,hc,hr⟩:=aAj hr;obtain⟨d,r,hd,hr⟩:=aAj hr;have h1:=h _ _ _ hb;have h2:=aBq hc;have h3:=h _ _ _ hd;split at hr
  · rename_i h0
    have:=aA3 h0
    have h4:=aKp h n _ _ _ _ hr;omega
  · have h4:=aTt h hr;omega
theorem aKs {ex:Nat→PR Xp} (h:Lt l ex) {ds:Bool} : ∀ n L i,i≤l.length→l.length - i<n→(∀ p,i≤p→p≤l.length→ex p≠.out)→aCa l ex ds n L i≠.out
 | 0,L,i,_,hn,_=>by omega
 | n+1,L,i,hi,hn,hp=>by
  rw[aC8];refine aAE (hp _ (Nat.le_refl _) hi) fun b m hb=>aAE aB7 fun c q hc=>?_;have h1:=h _ _ _ hb;have h2:=aBq hc;refine aAE (hp _ (by omega) (by omega)) fun d r hd=>?_;have h3:=h _ _ _ hd;split
  · rename_i h0
    have:=aA3 h0
    exact aKs h n _ _ (by omega) (by omega) (fun p h4 h5=>hp p (by omega) h5)
  · exact aTk (by omega) (fun p h4 h5=>hp p (by omega) h5)
theorem aR9 {ex:Nat→PR Xp} (h:Lt l ex):Lt l (aC6 l ex):=by
 intro i e j hr;unfold aC6 at hr;obtain⟨b,m,hb,hr⟩:=aAj hr;obtain⟨c,q,hc,hr⟩:=aAj hr;have h2:=aBq hc;have h3:=aKp h _ _ _ _ _ hr;split at hb
 · injection hb with h5 h6;omega
 · obtain⟨d,r,hd,hb⟩:=aAj hb;have h4:=h _ _ _ hd;injection hb with h5 h6;omega
theorem aRo {ex:Nat→PR Xp} {i:Nat} (h:Lt l ex) (hi:i≤l.length) (hp : ∀ p,i≤p→p≤l.length→ex p≠.out):aC6 l ex i≠.out:=by
 unfold aC6;refine aAE ?_ fun b m hb=>aAE aB7 fun c q hc=>?_
 · split
   · exact fun h=>by cases h
   · exact aAE (hp _ (Nat.le_refl _) hi) fun _ _ _ h=>by cases h
 · have h2:=aBq hc
   have h3:i≤m:=by
    split at hb
    · injection hb with h5 h6;omega
    · obtain⟨d,r,hd,hb⟩:=aAj hb;have h4:=h _ _ _ hd;injection hb with h5 h6;omega
   exact aKs h _ _ _ (by omega) (by omega) (fun p h4 h5=>hp p (by omega) h5)
theorem aUr {ex:Nat→PR Xp} (h:Lt l ex):Lt l (aFr l ex):=by
 intro i e j hr;unfold aFr at hr;obtain⟨b,m,hb,hr⟩:=aAj hr;obtain⟨c,q,hc,hr⟩:=aAj hr;obtain⟨d,r,hd,hr⟩:=aAj hr;have h1:=aBq hb;have h2:=h _ _ _ hc;have h3:=aBq hd;split at hr
 · obtain⟨f,t,hf,hr⟩:=aAj hr;have h4:=aBq hf;injection hr with h5 h6;omega
 · cases hr
theorem aS1 {ex:Nat→PR Xp} {i:Nat} (hi:i≤l.length) (hp : ∀ p,i≤p→p≤l.length→ex p≠.out):aFr l ex i≠.out:=by
 unfold aFr;refine aAE aB7 fun b m hb=>?_;have h1:=aBq hb;refine aAE (hp _ (by omega) (by omega)) fun c q hc=>aAE aB7 fun d r hd=>?_;split
 · exact aAE aB7 fun _ _ _ h=>by cases h
 · exact fun h=>by cases h
theorem aRf {ex:Nat→PR Xp} (h:Lt l ex):Lt l (aEn l ex):=by
 intro i e j hr;unfold aEn at hr;split at hr
 · rename_i h0
   have:=aGS h0
   injection hr with h5 h6;omega
 · split at hr
   · rename_i h1 h0
     have:=aGS h0
     have h2:=aRv h _ hr;omega
   · split at hr
     · rename_i h0
       have:=aA3 h0
       injection hr with h5 h6;omega
     · split at hr
       · rename_i h0
         have:=aA3 h0
         have h2:=aR9 h _ _ _ hr;omega
       · split at hr
         · rename_i h0
           have:=aA3 h0
           have h2:=aUr h _ _ _ hr;omega
         · split at hr
           · rename_i h0
             have:=aA3 h0
             obtain⟨b,m,hb,hr⟩:=aAj hr;obtain⟨c,q,hc,hr⟩:=aAj hr;have h1:=h _ _ _ hb;have h2:=aBq hc;injection hr with h5 h6;omega
           · cases hr
theorem aRF {ex:Nat→PR Xp} {i:Nat} (h:Lt l ex) (hi:i≤l.length) (hp : ∀ p,i<p→p≤l.length→ex p≠.out):aEn l ex i≠.out:=by
 unfold aEn;split
 · exact fun h=>by cases h
 · split
   · rename_i h1 h0
     have:=aGS h0
     exact aRr h (by omega) (fun p h2 h3=>hp p (by omega) h3)
   · split
     · exact fun h=>by cases h
     · split
       · rename_i h0
         have:=aA3 h0
         exact aRo h (by omega) (fun p h2 h3=>hp p (by omega) h3)
       · split
         · rename_i h0
           have:=aA3 h0
           exact aS1 (by omega) (fun p h2 h3=>hp p (by omega) h3)
         · split
           · rename_i h0
             have:=aA3 h0
             exact aAE (hp _ (by omega) (by omega)) fun _ _ _=>aAE aB7 fun _ _ _ h=>by cases h
           · exact fun h=>by cases h
theorem aUe {sg pl:Nat→PR Xp} (h:Lt l sg) (h2:Lt l pl):Lt l (aHL l sg pl):=by
 intro i e j hr;unfold aHL at hr;split at hr
 · exact h2 _ _ _ hr
 · rename_i op ho
   have:=aDm ho
   split at hr
   · rename_i h0
     have:=aGS h0.2.1
     injection hr with h5 h6;omega
   · obtain⟨b,m,hb,hr⟩:=aAj hr;have h1:=h _ _ _ hb;injection hr with h5 h6;omega
theorem aTa {sg pl:Nat→PR Xp} {i:Nat} (hi:i≤l.length) (hs : ∀ p,i<p→p≤l.length→sg p≠.out) (hp:pl i≠.out):aHL l sg pl i≠.out:=by
 unfold aHL;split
 · exact hp
 · rename_i op ho
   have:=aDm ho
   split
   · exact fun h=>by cases h
   · exact aAE (hs _ (by omega) (by omega)) fun _ _ _ h=>by cases h
theorem aU4 {ng cm:Nat→PR Xp} (h:Lt l ng) (h2:Lt l cm):Lt l (fun i=>if isP l i 2 [110,111,116]=true then (ng (i+1)).bind fun e j=>.ok (.mk 3 [110,111,116] nul [] [] 0 false false [e]) j else cm i):=by
 intro i e j hr;simp only at hr;split at hr
 · rename_i h0
   have:=aA3 h0
   obtain⟨b,m,hb,hr⟩:=aAj hr;have h1:=h _ _ _ hb;injection hr with h5 h6;omega
 · exact h2 _ _ _ hr
theorem aUX {ng cm:Nat→PR Xp} {i:Nat} (hs : ∀ p,i<p→p≤l.length→ng p≠.out) (hp:cm i≠.out):(if isP l i 2 [110,111,116]=true then (ng (i+1)).bind fun e j=>.ok (.mk 3 [110,111,116] nul [] [] 0 false false [e]) j else cm i:PR Xp)≠.out:=by
 split
 · rename_i h0
   have:=aA3 h0
   exact aAE (hs _ (by omega) (by omega)) fun _ _ _ h=>by cases h
 · exact hp
theorem aTF {i:Nat} {b:Bool} (h:b=true→i<l.length) (hi:i≤l.length):i≤nx i b∧nx i b≤l.length:=by
 unfold nx;split
 · rename_i h0
   have:=h h0
   omega
 · omega
theorem aVd {i:Nat} {k:Int} {s:List UInt8}:i≤nx i (isP l i k s)∧(i≤l.length→nx i (isP l i k s)≤l.length):=by
 refine⟨by unfold nx; split <;> omega,fun hi=>(aTF (fun h=>aA3 h) hi).2⟩
theorem aJY {i:Nat} (h:aBJ l i=true):i<l.length:=by
 unfold aBJ at h;simp only[Bool.and_eq_true] at h;exact aA3 h.1
theorem aUm {sm ex:Nat→PR Xp} (h:Lt l sm) (he:Lt l ex):Lt l (aLt l sm ex):=by
 intro i e j hr;rw[aGq] at hr;obtain⟨b,m,hb,hr⟩:=aAj hr;have h1:=h _ _ _ hb
 have key:m≤j∧(m≤l.length→j≤l.length):=by
  cases ho:oneP l 4 m [[61],[60,62],[60],[60,61],[62],[62,61]] with
  | some op =>
   rw[aEd ho] at hr
   have:=aDm ho
   obtain⟨c,q,hc,hr⟩:=aAj hr;have h2:=h _ _ _ hc;injection hr with h5 h6;omega
  | none =>
   cases h0:isP l m 2 [105,115] with
   | true =>
    rw[aGs ho h0] at hr
    have:=aA3 h0
    obtain⟨c,q,hc,hr⟩:=aAj hr;have h2:=h _ _ _ hc;have h3:=aVd (l:=l) (i:=m+1) (k:=2) (s:=[110,111,116]);injection hr with h5 h6;omega
   | false =>
    rw[aE2 ho h0] at hr;have h3:m≤nx m (aBJ l m)∧(m≤l.length→nx m (aBJ l m)≤l.length):=⟨by unfold nx; split <;> omega,fun hi=>(aTF aJY hi).2⟩;generalize nx m (aBJ l m)=q at hr h3;generalize aBJ l m=nt at hr;unfold aFn at hr;split at hr
    · obtain⟨c,r,hc,hr⟩:=aAj hr;obtain⟨d,t,hd,hr⟩:=aAj hr;have h4:=aBq hc;have h5:=aQh he _ _ _ hd;injection hr with h6 h7;omega
    · split at hr
      · rename_i g0
        have:=aA3 g0
        obtain⟨c,r,hc,hr⟩:=aAj hr;obtain⟨d,t,hd,hr⟩:=aAj hr;obtain⟨f,u,hf,hr⟩:=aAj hr;have h4:=h _ _ _ hc;have h5:=aBq hd;have h6:=h _ _ _ hf;injection hr with h7 h8;omega
      · split at hr
        · rename_i g0
          have:=aA3 g0
          obtain⟨c,r,hc,hr⟩:=aAj hr;have h4:=h _ _ _ hc;injection hr with h7 h8;omega
        · injection hr with h7 h8;omega
 omega
theorem aTB {sm ex:Nat→PR Xp} {i:Nat} (h:Lt l sm) (he:Lt l ex) (hi:i≤l.length) (hs : ∀ p,i≤p→p≤l.length→sm p≠.out) (hp : ∀ p,i<p→p≤l.length→ex p≠.out):aLt l sm ex i≠.out:=by
 rw[aGq];refine aAE (hs _ (Nat.le_refl _) hi) fun b m hb=>?_;have h1:=h _ _ _ hb
 cases ho:oneP l 4 m [[61],[60,62],[60],[60,61],[62],[62,61]] with
 | some op =>
  rw[aEd ho]
  have:=aDm ho
  exact aAE (hs _ (by omega) (by omega)) fun _ _ _ h=>by cases h
 | none =>
  cases h0:isP l m 2 [105,115] with
  | true =>
   rw[aGs ho h0]
   have:=aA3 h0
   have h3:=aVd (l:=l) (i:=m+1) (k:=2) (s:=[110,111,116])
   exact aAE (hs _ (by omega) (by omega)) fun _ _ _ h=>by cases h
  | false =>
   rw[aE2 ho h0];have h3:m≤nx m (aBJ l m)∧(m≤l.length→nx m (aBJ l m)≤l.length):=⟨by unfold nx; split <;> omega,fun hi=>(aTF aJY hi).2⟩;generalize nx m (aBJ l m)=q at h3 ⊢;generalize aBJ l m=nt;unfold aFn;split
   · refine aAE aB7 fun c r hc=>?_;have h4:=aBq hc
     exact aAE (aOK he (by omega) (fun p h5 h6=>hp p (by omega) h6)) fun _ _ _ h=>by cases h
   · split
     · rename_i g0
       have:=aA3 g0
       refine aAE (hs _ (by omega) (by omega)) fun c r hc=>aAE aB7 fun d t hd=>?_;have h4:=h _ _ _ hc;have h5:=aBq hd
       exact aAE (hs _ (by omega) (by omega)) fun _ _ _ h=>by cases h
     · split
       · rename_i g0
         have:=aA3 g0
         exact aAE (hs _ (by omega) (by omega)) fun _ _ _ h=>by cases h
       · exact fun h=>by cases h
theorem aPR (l:List Tok) : ∀ n sy,Lt l (runP l n sy)
 | 0,sy=>fun i e j h=>by cases h
 | n+1,sy=>by
  have ih:=aPR l n;cases sy
  · exact aEZ (ih .conj)
  · exact aEZ (ih .neg)
  · exact aU4 (ih .neg) (ih .comp)
  · exact aUm (ih .sum) (ih .expr)
  · exact aEZ (ih .prod)
  · exact aEZ (ih .join)
  · exact aEZ (ih .sgn)
  · exact aUe (ih .sgn) (ih .plain)
  · exact aRf (ih .expr)
def aEK:Sy→Nat
 | .expr=>8 | .conj=>7 | .neg=>6 | .comp=>5 | .sum=>4 | .prod=>3 | .join=>2 | .sgn=>1 | .plain=>0
theorem aSA (l:List Tok) : ∀ n sy i,i≤l.length→9*(l.length - i)+aEK sy<n→runP l n sy i≠.out
 | 0,sy,i,hi,h=>by omega
 | n+1,sy,i,hi,h=>by
  have ih:=aSA l n;have lt:=aPR l n;cases sy <;> simp only[aEK] at h
  · exact aEW (lt .conj) hi (fun p h1 h2=>ih _ p h2 (by simp only[aEK]; omega))
  · exact aEW (lt .neg) hi (fun p h1 h2=>ih _ p h2 (by simp only[aEK]; omega))
  · exact aUX (fun p h1 h2=>ih _ p h2 (by simp only[aEK]; omega)) (ih _ i hi (by simp only[aEK]; omega))
  · exact aTB (lt .sum) (lt .expr) hi (fun p h1 h2=>ih _ p h2 (by simp only[aEK]; omega)) (fun p h1 h2=>ih _ p h2 (by simp only[aEK]; omega))
  · exact aEW (lt .prod) hi (fun p h1 h2=>ih _ p h2 (by simp only[aEK]; omega))
  · exact aEW (lt .join) hi (fun p h1 h2=>ih _ p h2 (by simp only[aEK]; omega))
  · exact aEW (lt .sgn) hi (fun p h1 h2=>ih _ p h2 (by simp only[aEK]; omega))
  · exact aTa hi (fun p h1 h2=>ih _ p h2 (by simp only[aEK]; omega)) (ih _ i hi (by simp only[aEK]; omega))
  · exact aRF (lt .expr) hi (fun p h1 h2=>ih _ p h2 (by simp only[aEK]; omega))
end
end
section
open Go.RowKit Go.IntWalk
def fnS:Sy→Nat
 | .expr=>37 | .conj=>66 | .neg=>92 | .comp=>131 | .sum=>140
 | .prod=>145 | .join=>148 | .sgn=>149 | .plain=>150
section
variable {l:List Tok} {pb:Nat} {la:Option Addr} {lc:Nat}
theorem aH6 (htx : ∀ i,Sm (l.getD i default).tx) : ∀ n sy,aAY l pb la lc (fnS sy) (runP l n sy)
 | 0,sy=>fun W i hP hR=>absurd rfl hR
 | n+1,sy=>by
  have ih:=aH6 htx n;have hgt : ∀ sy i e j,runP l n sy i = .ok e j→i<j:=fun sy i e j h=>(aPR l n sy i e j h).1;have hge : ∀ sy i e j,runP l n sy i = .ok e j→i≤j:=fun sy i e j h=>Nat.le_of_lt (hgt sy i e j h);cases sy
  · exact aQm (ih .conj) (hge .conj)
  · exact aPD (ih .neg) (hge .neg)
  · exact aN4 (ih .neg) (ih .comp)
  · exact aLm (ih .sum) (ih .expr) (hgt .expr)
  · exact aRx (ih .prod) (hge .prod)
  · exact aPL (ih .join) (hge .join)
  · exact aP3 (ih .sgn) (hge .sgn)
  · exact aK9 (ih .sgn) (ih .plain)
  · exact aKm htx (ih .expr) (aKf (aKV (ih .expr) (hgt .expr))) (aKJ (ih .expr) (hgt .expr)) (aLk htx (ih .expr))
def aQ0 (l:List Tok) (i:Nat):PR Xp:=runP l (9*(l.length - i)+9) .expr i
theorem aNt {i:Nat} (hi:i≤l.length):aQ0 l i≠.out:=aSA l _ .expr i hi (by simp only[aEK]; omega)
theorem aOc (htx : ∀ i,Sm (l.getD i default).tx) {W:World} {i:Nat} (hP:PW l pb la lc W i):Calls Tryz.prog 37 #[.pointer (some ⟨pb,0,none⟩)] W (aDJ l pb la lc W (GX (fun b=>b<W.heap.size)) (aQ0 l i)) :=
 aH6 htx _ .expr W i hP (aNt hP.le)
end
end
section
open Go.RowKit Go.IntWalk
theorem aTn {P:Program} {f:FuncId} {args args':List DV} {res:DV} (h:FnC P f args res) (hw : ∀ w X vs,DVRs w X args' vs→DVRs w X args vs):FnC P f args' res :=
 fun w X vs hg hx hv=>h w X vs hg hx (hw _ _ _ hv)
abbrev nilD:DV:=.c (.vs [])
theorem aUn {w:World} {X:Nat→Prop} {r:Value} (h:DVR w X nilD r):DVR w X (.c (.vs (vc []))) r:=h
def inV (a:V3):List V3→Bool→V3
 | [],kn=>truV false kn
 | v::R,kn=>if (aDt [61] a v).1=1∧¬ (aDt [61] a v).2.1=0 then aDt [61] a v else inV a R (if kn=true then (aDt [61] a v).1==1 else false)
theorem aVZ (a:V3) (R:List V3) (ha:Sz a.2.2) (hR : ∀ v∈R,Sz v.2.2) (hl:R.length≤1000000):FnC Tryz.prog 55 [.c (.vs (vc (a::R)))] (vD (inV a R true)):=by
 refine w55 (vc (a::R)) ?_;rw[aAz]
 have hd:(vc (a::R)).drop (1:Int).toNat=vc R:=by rw[aLP]; rfl
 rw[hd,aAz]
 have hln:((a::R).length:Int)=R.length+1:=by simp
 refine⟨by omega,aAN _,?_⟩;refine⟨fun kn i m=>∃ K:Nat,i=K∧K≤R.length∧inV a R true=inV a (R.drop K) kn∧m=R.length - K,⟨_,0,rfl,by omega,rfl,rfl⟩,?_⟩;rintro m kn i ⟨K,rfl,hK,hi0,rfl⟩;refine⟨fun hi=>⟨by omega,aAN _,vc_k _ _ (by omega) (by omega),by omega,aAN _,vc_k _ _ (by omega) (by simp),?_⟩,fun hi=>?_⟩
 · rw[aBl (a::R) (0:Int) (by omega) (by simp),aBl R _ (by omega) (by omega),Int.toNat_natCast]
   have hdK:R.drop K=R.getD K nul::R.drop (K+1):=by
    rw[List.drop_eq_getElem_cons (by omega)]
    congr 1
    simp[List.getD_eq_getElem?_getD,show K<R.length by omega]
   have hm:Sz (R.getD K nul).2.2:=by
    refine hR _ ?_;rw[List.getD_eq_getElem?_getD,List.getElem?_eq_getElem (by omega)];exact List.getElem_mem _
   refine⟨_,_,_,aJZ [61] a (R.getD K nul) ha hm,_,_,aI9 _,fun h=>?_,fun h=>?_⟩
   · have h1:(aDt [61] a (R.getD K nul)).1=1:=by simpa using h.1
     have h2 : ¬ (aDt [61] a (R.getD K nul)).2.1=0:=by
      have:=h.2
      simp only[Bool.and_eq_true,Bool.not_eq_true',beq_eq_false_iff_ne] at this;exact this.2
     rw[hi0,hdK,inV,if_pos ⟨h1,h2⟩]
   · refine⟨R.length - (K+1),by omega,K+1,by rw[i64_in _ (by omega)]; omega,by omega,?_,rfl⟩;rw[hi0,hdK,inV,if_neg];rintro⟨h1,h2⟩;exact h ⟨beq_iff_eq.2 h1,by rw[Bool.and_eq_true]; exact⟨beq_iff_eq.2 h1,by rw[Bool.not_eq_true',beq_eq_false_iff_ne]; exact h2⟩⟩
 · have e:K=R.length:=by omega
   rw[hi0,e,List.drop_length,inV];exact⟨_,_,_,aFb false kn,rfl⟩
section
variable (k:Int) (op:List UInt8) (v:V3) (tb nm:List UInt8) (sl:Int) (nt ds:Bool) (args:List Xp) (row:List V3)
theorem aRW:FnC Tryz.prog 32 [xD (.mk 1 op v tb nm sl nt ds args),.c (.vs (vc [])),.c (.vs (vc row))] (tupE (v,0)):=by
 unfold xD;simp only[Xp.cells];exact w32 1 (bs op) v.1 v.2.1 (bs v.2.2) (bs tb) (bs nm) sl nt ds (xcs args) (vc []) (vc row) ⟨fun _=>rfl,fun h=>absurd rfl h⟩
theorem aTh (a:V3) (ha:I64 a.2.1):FnC Tryz.prog 32 [xD (.mk 3 op v tb nm sl nt ds args),.c (.vs (vc [a])),.c (.vs (vc row))] (tupE (unV op a)):=by
 unfold xD;simp only[Xp.cells];refine w32 3 (bs op) v.1 v.2.1 (bs v.2.2) (bs tb) (bs nm) sl nt ds (xcs args) (vc [a]) (vc row) ?_
 iterate 2 refine⟨fun h=>absurd h (by decide),fun _=>?_⟩
 refine⟨fun _=>?_,fun h=>absurd rfl h⟩;rw[aBl _ (0:Int) (by omega) (by simp)];exact⟨by simp[aAz],aAN _,vc_k _ _ (by omega) (by simp),_,_,_,_,c_Un op a ha,rfl⟩
theorem aRE (a b:V3) (ha:I64 a.2.1) (hb:I64 b.2.1) (sa:Sz a.2.2) (sb:Sz b.2.2):FnC Tryz.prog 32 [xD (.mk 4 op v tb nm sl nt ds args),.c (.vs (vc [a,b])),.c (.vs (vc row))] (tupE (binV op a b)):=by
 unfold xD;simp only[Xp.cells];refine w32 4 (bs op) v.1 v.2.1 (bs v.2.2) (bs tb) (bs nm) sl nt ds (xcs args) (vc [a,b]) (vc row) ?_
 iterate 3 refine⟨fun h=>absurd h (by decide),fun _=>?_⟩
 refine⟨fun _=>?_,fun h=>absurd rfl h⟩;rw[aBl _ (0:Int) (by omega) (by simp),aBl _ (1:Int) (by omega) (by simp)];exact⟨by simp[aAz],aAN _,vc_k _ _ (by omega) (by simp),by simp[aAz],aAN _,vc_k _ _ (by omega) (by simp),_,_,_,_,aVI op a b ha hb sa sb,rfl⟩
theorem aTR (a b:V3) (sa:Sz a.2.2) (sb:Sz b.2.2):FnC Tryz.prog 32 [xD (.mk 5 op v tb nm sl nt ds args),.c (.vs (vc [a,b])),.c (.vs (vc row))] (tupE (truV (!((cmpV a b 0==0)==nt)) true,0)):=by
 unfold xD;simp only[Xp.cells];refine w32 5 (bs op) v.1 v.2.1 (bs v.2.2) (bs tb) (bs nm) sl nt ds (xcs args) (vc [a,b]) (vc row) ?_
 iterate 4 refine⟨fun h=>absurd h (by decide),fun _=>?_⟩
 refine⟨fun _=>?_,fun h=>absurd rfl h⟩;rw[aBl _ (0:Int) (by omega) (by simp),aBl _ (1:Int) (by omega) (by simp)];exact⟨by simp[aAz],aAN _,vc_k _ _ (by omega) (by simp),by simp[aAz],aAN _,vc_k _ _ (by omega) (by simp),_,aFK a b 0 sa sb,_,_,_,aFM _,rfl⟩
theorem aTC (a:V3) (R:List V3) (ha:Sz a.2.2) (hR : ∀ v∈R,Sz v.2.2) (hl:R.length≤1000000):FnC Tryz.prog 32 [xD (.mk 6 op v tb nm sl nt ds args),.c (.vs (vc (a::R))),.c (.vs (vc row))] (tupE (aNX (inV a R true) nt,0)):=by
 unfold xD;simp only[Xp.cells];refine w32 6 (bs op) v.1 v.2.1 (bs v.2.2) (bs tb) (bs nm) sl nt ds (xcs args) (vc (a::R)) (vc row) ?_
 iterate 5 refine⟨fun h=>absurd h (by decide),fun _=>?_⟩
 exact⟨fun _=>⟨_,_,_,aVZ a R ha hR hl,_,_,_,aKu _ nt,rfl⟩,fun h=>absurd rfl h⟩
theorem aKG (a b c:V3) (sa:Sz a.2.2) (sb:Sz b.2.2) (sc:Sz c.2.2):FnC Tryz.prog 32 [xD (.mk 7 op v tb nm sl nt ds args),.c (.vs (vc [a,b,c])),.c (.vs (vc row))] (tupE (aNX (aGd (aDt [62,61] a b) (aDt [60,61] a c) false).1 nt,0)):=by
 unfold xD;simp only[Xp.cells];refine w32 7 (bs op) v.1 v.2.1 (bs v.2.2) (bs tb) (bs nm) sl nt ds (xcs args) (vc [a,b,c]) (vc row) ?_
 iterate 6 refine⟨fun h=>absurd h (by decide),fun _=>?_⟩
 refine⟨fun _=>?_,fun h=>absurd rfl h⟩;rw[aBl _ (0:Int) (by omega) (by simp),aBl _ (1:Int) (by omega) (by simp),aBl _ (2:Int) (by omega) (by simp)]
 exact⟨by simp[aAz],aAN _,vc_k _ _ (by omega) (by simp),by simp[aAz],aAN _,vc_k _ _ (by omega) (by simp),_,_,_,aJZ [62,61] a b sa sb,
  by simp[aAz],aAN _,vc_k _ _ (by omega) (by simp),by simp[aAz],aAN _,vc_k _ _ (by omega) (by simp),_,_,_,aJZ [60,61] a c sa sc,_,_,_,_,aPB _ _ false,_,_,_,aKu _ nt,rfl⟩
end
end
section
open Go.RowKit Go.IntWalk
section
variable {row:List V3}
abbrev EvR (row:List V3) (e:Xp) (r:V3×Int):Prop:=FnC Tryz.prog 13 [xD e,.c (.vs (vc row))] (tupE r)
theorem at2 {e1 e2:Xp} {a b:V3} (h1:EvR row e1 (a,0)) (h2:EvR row e2 (b,0)) : ∀ i (h:i<[e1,e2].length),FnC Tryz.prog 13 [xD [e1,e2][i],.c (.vs (vc row))] (tupE ([a,b].getD i nul,0))
 | 0,_=>h1
 | 1,_=>h2
 | n+2,h=>absurd h (by simp)
end
theorem aAm (n:Int) (h : -1000≤n∧n≤1000):I64 n:=by unfold I64; omega
end
section
open Go.RowKit Go.IntWalk
def wAbs:List UInt8:=[97,98,115]
def aGe:List UInt8:=[115,105,103,110]
def aEO:List UInt8:=[108,101,110,103,116,104]
def aFU:List UInt8:=[117,112,112,101,114]
def aHC:List UInt8:=[108,111,119,101,114]
def aN9:List UInt8:=[116,114,105,109]
def aHA:List UInt8:=[108,116,114,105,109]
def aG0:List UInt8:=[114,116,114,105,109]
def wHex:List UInt8:=[104,101,120]
def aEr:List UInt8:=[113,117,111,116,101]
def aCQ:List UInt8:=[116,121,112,101,111,102]
def aF7:List UInt8:=[105,110,115,116,114]
def aCN:List UInt8:=[105,102,110,117,108,108]
def aCL:List UInt8:=[110,117,108,108,105,102]
def aJz:List UInt8:=[108,105,107,101]
def aCG:List UInt8:=[114,101,112,108,97,99,101]
def aDH:List UInt8:=[115,117,98,115,116,114]
def aBE:List UInt8:=[99,111,97,108,101,115,99,101]
def aC9:List UInt8:=[99,111,110,99,97,116]
def aCm (f:List UInt8) (n:Int):Bool :=
 if f=wAbs∨f=aGe∨f=aEO∨f=aFU∨f=aHC∨f=aN9∨f=aHA∨f=aG0∨f=wHex∨f=aEr∨f=aCQ then n==1
 else if f=aF7∨f=aCN∨f=aCL∨f=aJz then n==2
 else if f=aCG then n==3
 else if f=aDH then (n==2||n==3)
 else if f=aBE∨f=aC9 then decide (1≤n)
 else false
theorem aTy (op:List UInt8) (n:Int) (hop:Sm op):FnC Tryz.prog 81 [sD op,iD n] (bD (aCm (aAn op) n)):=by
 refine w81 (bs op) n ⟨bs (aAn op),aAL op hop.sz,?_⟩;generalize aAn op=f;simp only[aAG,aAu];unfold aCm;simp only[wAbs,aGe,aEO,aFU,aHC,aN9,aHA,aG0,wHex,aEr,aCQ,aF7,aCN,aCL,aJz,aCG,aDH,aBE,aC9]
 (repeat' (first | with_reducible refine⟨fun _=>?_,fun _=>?_⟩ | fail))
 all_goals first
  | (rename_i h; subst h; rfl)
  | (rename_i h; subst h; by_cases h2:n=2 <;> simp[bD,h2]; done)
  | (simp[bD, *]; done)
  | fail
def badV:List V3→Int
 | []=>0
 | v::L=>if aBZ v=0 then badV L else aBZ v
def fitQ (v:V3) (e:Int):DV:=if e=0∧4096<(v.2.2.length:Int) then .tup [vD nul,iD 3] else if e=0 then .tup [vD v,iD 0] else .tup [vD nul,iD e]
def aOp (op:List UInt8) (L:List V3) (o:V3) (oe:Int) (met:Bool) (r:V3) (re:Int):DV :=
 if aCm (aAn op) L.length=true then
  (if badV L=0 then (if met=true then fitQ o oe else if L.any (fun v=>v.1==0)=true then .tup [vD nul,iD 0] else fitQ r re) else .tup [vD nul,iD (badV L)])
 else .tup [vD nul,iD 25]
theorem aSN (L:List V3) (K:Nat) (h:K<L.length):L.drop K=L.getD K nul::L.drop (K+1):=by
 rw[List.drop_eq_getElem_cons h]
 congr 1
 simp[List.getD_eq_getElem?_getD,h]
theorem aNh (L:List V3) (K:Nat) (h:K<L.length):L.take (K+1)=L.take K++[L.getD K nul]:=by
 rw[List.take_add_one]
 congr 1
 simp[List.getD_eq_getElem?_getD,h]
theorem aNa (op:List UInt8) (hop:Sm op) (L:List V3) (hl:L.length≤1000000) (o:V3) (oe:Int) (met:Bool) (r:V3) (re:Int)
 (h1:aCm (aAn op) L.length=true→badV L=0→FnC Tryz.prog 83 [sD (aAn op),.c (.vs (vc L))] (.tup [vD o,iD oe,bD met]))
 (h2:aCm (aAn op) L.length=true→badV L=0→met=false→L.any (fun v=>v.1==0)=false→FnC Tryz.prog 84 [sD (aAn op),.c (.vs (vc L))] (.tup [vD r,iD re])) :
 FnC Tryz.prog 59 [sD op,.c (.vs (vc L))] (aOp op L o oe met r re):=by
 refine w59 (bs op) (vc L) ?_;rw[aAz];refine⟨_,aTy op L.length hop,?_⟩;unfold aOp;refine⟨fun hk=>by rw[if_neg hk]; rfl,fun hk=>?_⟩;have hk:=Classical.not_not.1 hk;rw[if_pos hk];refine⟨fun nl i m=>∃ K:Nat,i=K∧K≤L.length∧nl=(L.take K).any (fun v=>v.1==0)∧badV L=badV (L.drop K)∧m=L.length - K,⟨_,0,rfl,by omega,by simp,rfl,rfl⟩,?_⟩;rintro m nl i ⟨K,rfl,hK,rfl,hb,rfl⟩;refine⟨fun hi=>⟨by omega,aAN _,vc_k _ _ (by omega) (by omega),?_⟩,fun hi=>?_⟩
 · rw[aBl _ _ (by omega) (by omega),Int.toNat_natCast,vc_0 _ _ (by omega) (by omega),Int.toNat_natCast];have hd:=aSN L K (by omega);refine⟨_,aR4 _,fun h=>?_,fun h=>?_⟩
   · have e:badV L=aBZ (L.getD K nul):=by rw[hb,hd,badV,if_neg h]
     rw[e,if_neg h]; rfl
   · refine⟨_,?_,K+1,by rw[i64_in _ (by omega)]; omega,by omega,?_,?_,rfl⟩
     · omega
     · rw[aNh L K (by omega),List.any_append];cases (L.take K).any (fun v=>v.1==0) <;> simp
     · rw[hb,hd,badV,if_pos (Classical.not_not.1 h)]
 · have e:K=L.length:=by omega
   subst e;rw[List.drop_length] at hb;have hb:badV L=0:=hb;rw[if_pos hb,List.take_length];refine⟨_,aAL op hop.sz,_,_,_,_,_,h1 hk hb,fun hm=>⟨fun hn=>?_,fun hn=>?_⟩,fun hm=>?_⟩
   · rw[if_neg hm,if_pos hn]; rfl
   · rw[if_neg hm,if_neg hn];refine⟨_,_,_,_,h2 hk hb (Bool.eq_false_iff.2 hm) (Bool.eq_false_iff.2 hn),fun ha=>?_,fun ha=>⟨fun hz=>?_,fun hz=>?_⟩⟩
     · rw[aAg] at ha; unfold fitQ; rw[if_pos ha] <;> rfl
     · rw[aAg] at ha; unfold fitQ; rw[if_neg ha,if_neg hz] <;> rfl
     · rw[aAg] at ha; unfold fitQ; rw[if_neg ha,if_pos (Classical.not_not.1 hz)] <;> rfl
   · rw[if_pos (Classical.not_not.1 hm)];refine⟨fun ha=>?_,fun ha=>⟨fun hz=>?_,fun hz=>?_⟩⟩
     · rw[aAg] at ha; unfold fitQ; rw[if_pos ha] <;> rfl
     · rw[aAg] at ha; unfold fitQ; rw[if_neg ha,if_neg hz] <;> rfl
     · rw[aAg] at ha; unfold fitQ; rw[if_neg ha,if_pos (Classical.not_not.1 hz)] <;> rfl
theorem aN6 (f:List UInt8) (L:List V3) (hf:f≠aCQ∧f≠aEr∧f≠aBE∧f≠aCN∧f≠aCL∧f≠aC9):FnC Tryz.prog 83 [sD f,.c (.vs (vc L))] (.tup [vD nul,iD 0,bD false]):=by
 refine w83 (bs f) (vc L) ?_;simp only[aAG,aAu];obtain⟨h1,h2,h3,h4,h5,h6⟩:=hf
 exact⟨fun h=>absurd h h1,fun _=>⟨fun h=>absurd h h2,fun _=>⟨fun h=>absurd h h3,fun _=>⟨fun h=>absurd h h4,fun _=>⟨fun h=>absurd h h5,fun _=>⟨fun h=>absurd h h6,fun _=>by first | rfl | trivial⟩⟩⟩⟩⟩⟩
end
section
open Go.RowKit Go.IntWalk
end
section
open Go.RowKit Go.IntWalk
def upp (c:UInt8):UInt8:=if 97≤c∧c≤122 then c - 32 else c
def upL (l:List UInt8):List UInt8:=l.map upp
def upK (l:List UInt8) (k:Nat):List UInt8:=upL (l.take k)++l.drop k
theorem aIX (l:List UInt8) (k:Nat):(upK l k).length=l.length:=by simp[upK,upL]; omega
theorem aSX (l:List UInt8) (k:Nat) (h:k<l.length):(upK l k)[k]'(by rw[aIX]; exact h)=l[k]:=by
 unfold upK;rw[List.getElem_append_right (by simp[upL]; omega)];simp[upL,Nat.min_eq_left (Nat.le_of_lt h)]
theorem aSf (l:List UInt8):upK l 0=l:=by simp[upK,upL]
theorem aT9 (l:List UInt8):upK l l.length=upL l:=by simp[upK]
theorem aMO (l:List UInt8) (k:Nat) (h:k<l.length):(upK l k).set k (upp l[k])=upK l (k+1):=by
 unfold upK;rw[List.set_append_right _ _ (by simp[upL]; omega)]
 have e:k - (upL (l.take k)).length=0:=by simp[upL]; omega
 rw[e,List.drop_eq_getElem_cons h,List.set_cons_zero,List.take_succ_eq_append_getElem h];simp[upL];rw[List.take_succ_eq_append_getElem (by simpa using h)]
 simp
theorem aQM (l:List UInt8) (k:Nat) (h:k<l.length) (hc:upp l[k]=l[k]):upK l k=upK l (k+1):=by
 rw[←aMO l k h,hc]
 have:=aSX l k h
 rw[←this,List.set_getElem_self]
theorem aR2 (c:UInt8) (h : ¬ (97≤(c.toNat:Int)∧(c.toNat:Int)≤122)):upp c=c:=by
 unfold upp;rw[if_neg];rintro⟨h1,h2⟩;have h1:97≤c.toNat:=h1;have h2:c.toNat≤122:=h2;omega
theorem aUY (c:UInt8) (h:97≤(c.toNat:Int)∧(c.toNat:Int)≤122):((upp c).toNat:Int)=(c.toNat:Int) - 32:=by
 have h1:97≤c:=by show 97≤c.toNat; omega
 have h2:c≤122:=by show c.toNat≤122; omega
 unfold upp;rw[if_pos ⟨h1,h2⟩,UInt8.toNat_sub]
 simp
 omega
theorem aQH (l:List UInt8):(upL l).length=l.length:=by simp[upL]
theorem aSi (l:List UInt8) (k:Nat) (h:k<l.length):(upK l k).getD k 0=l.getD k 0:=by
 have:=aSX l k h
 rw[List.getD_eq_getElem?_getD,List.getD_eq_getElem?_getD,List.getElem?_eq_getElem (by rw[aIX]; exact h),this,List.getElem?_eq_getElem h]
theorem aTZ (l:List UInt8) (hs:Sz l):FnC Tryz.prog 117 [sD l] (sD (upL l)):=by
 unfold Sz at hs;refine w117 (bs l) ?_;intro x1 hx1;rw[aLZ] at hx1;subst hx1;rw[aBu];refine⟨fun rows i k=>0≤i∧i≤l.length∧rows=bc (upK l i.toNat)∧k=l.length - i.toNat,⟨_,by omega,by omega,by rw[Int.toNat_zero,aSf],rfl⟩,?_⟩;rintro k rows i ⟨h0,h1,rfl,rfl⟩;refine⟨fun hi=>?_,fun hi=>?_⟩
 · have hk:i.toNat<l.length:=by omega
   have hk2:i<((upK l i.toNat).length:Int):=by rw[aIX]; omega
   rw[aUR _ _ h0 hk2,aSi l _ hk,i64_in (i+1) (by omega)];refine⟨by omega,aOz _ _ h0 hk2,fun hc=>?_,fun hc=>?_⟩
   · rw[aBu,aIX];refine⟨by omega,by omega,fun x4 hx4=>?_⟩;rw[aMl (b:=upp (l.getD i.toNat 0)) (hz:=by rw[u8_in (((l.getD i.toNat 0).toNat:Int) - 97) (by omega),u8_in _ (by omega),aUY _ hc]; omega),aIZ l _ hk,aMO l _ hk] at hx4;subst hx4;refine⟨_,?_,by omega,by omega,?_,rfl⟩
     · omega
     · rw[show (i+1).toNat=i.toNat+1 by omega]
   · refine⟨_,?_,by omega,by omega,?_,rfl⟩
     · omega
     · rw[show (i+1).toNat=i.toNat+1 by omega,aQM l _ hk (by rw[←aIZ l _ hk]; exact aR2 _ hc)]
 · have e:i.toNat=l.length:=by omega
   rw[e,aT9,aBu,aQH,Int.toNat_natCast,aIP,aHG,←aQH l,List.take_length];exact⟨by omega,aEq _,rfl⟩
end
section
open Go.RowKit Go.IntWalk
def catL (L:List V3):List UInt8:=L.flatMap rawL
theorem aMD : ∀ {L:List V3},(∀ v∈L,Vs v)→(catL L).length≤L.length*1100000
 | [],_=>by simp[catL]
 | v::L,h=>by
  have h1:=aBv (h v (by simp));have h2:=aMD (L:=L) fun u hu=>h u (by simp[hu]);unfold Sm at h1;simp only[catL,List.flatMap_cons,List.length_append,List.length_cons] at h2 ⊢;omega
theorem aO2 (L:List V3) (v:V3):catL (L++[v])=catL L++rawL v:=by simp[catL]
theorem aGZ (L:List V3) (K:Nat) (h:K<L.length):L.getD K nul∈L:=by
 rw[List.getD_eq_getElem?_getD,List.getElem?_eq_getElem h];exact List.getElem_mem h
def catR (L:List V3):V3×Int:=if L.any (fun v=>v.1==3)=true then (nul,11) else ((2,0,catL L),0)
theorem aRQ (L:List V3) (hL : ∀ v∈L,Vs v) (hl:L.length≤1000000):FnC Tryz.prog 110 [.c (.vs (vc L))] (.tup [vD (catR L).1,iD (catR L).2]):=by
 refine w110 (vc L) ?_;rw[aAz];refine⟨fun rows i m=>∃ K:Nat,i=K∧K≤L.length∧rows=bc (catL (L.take K))∧(L.take K).any (fun v=>v.1==3)=false∧m=L.length - K,⟨_,0,rfl,by omega,rfl,by simp,rfl⟩,?_⟩;rintro m rows i ⟨K,rfl,hK,rfl,hn,rfl⟩;have hT:(catL (L.take K)).length≤(L.take K).length*1100000:=aMD fun v hv=>hL v (List.mem_of_mem_take hv);rw[List.length_take] at hT;refine⟨fun hi=>⟨by omega,aAN _,vc_k _ _ (by omega) (by omega),?_⟩,fun hi=>?_⟩
 · rw[aBl _ _ (by omega) (by omega),vc_0 _ _ (by omega) (by omega),Int.toNat_natCast];have hm:=aGZ L K (by omega);refine⟨fun h=>?_,fun h=>?_⟩
   · have:L.any (fun v=>v.1==3)=true:=List.any_eq_true.2 ⟨_,hm,by simpa using h⟩
     unfold catR;rw[if_pos this]; rfl
   · have hr:=aBv (hL _ hm);unfold Sm at hr;refine⟨_,aCX _ (hL _ hm),?_,?_⟩
     · rw[aBu,aAg]; omega
     · rintro x4 rfl;rw[aLZ,aER,i64_in _ (by omega)];refine⟨_,?_,K+1,by omega,by omega,?_,?_,rfl⟩
       · omega
       · rw[aNh L K (by omega),aO2]
       · rw[aNh L K (by omega),List.any_append,hn];simpa using h
 · have e:K=L.length:=by omega
   subst e;rw[List.take_length] at hn ⊢;unfold catR;rw[if_neg (by rw[hn]; simp)];refine⟨aEq _,?_⟩;rw[aHG];exact⟨_,_,_,_,aCI _,rfl⟩
theorem aOk (L:List V3) (hL : ∀ v∈L,Vs v) (hl:L.length≤1000000):FnC Tryz.prog 83 [sD aC9,.c (.vs (vc L))] (.tup [vD (catR L).1,iD (catR L).2,bD true]):=by
 refine w83 (bs aC9) (vc L) ?_;simp only[aAG,aAu]
 iterate 5 refine⟨fun h=>absurd h (by decide),fun _=>?_⟩
 exact⟨fun _=>⟨_,_,_,_,aRQ L hL hl,rfl⟩,fun h=>absurd rfl h⟩
end
section
open Go.RowKit Go.IntWalk
def aPU (k:Int):List UInt8:=if k=1 then [105,110,116] else if k=2 then [116,101,120,116] else if k=3 then [98,108,111,98] else [110,117,108,108]
theorem aVD (v:V3):FnC Tryz.prog 109 [vD v] (sD (aPU v.1)):=by
 refine w109 v.1 v.2.1 (bs v.2.2) ?_
 (try simp only[aAG,aAu,aAg,aAh,aAi,aAr])
 (repeat' (first | with_reducible refine⟨fun _=>?_,fun _=>?_⟩ | fail))
 all_goals (((try simp only[aPU,sD] at *); (repeat' split) <;> (first | rfl | (exfalso; omega) | (simp_all; done) | (simp_all; omega))))
def aCA:List V3→V3
 | []=>nul
 | v::L=>if v.1=0 then aCA L else v
theorem aFX (f:List UInt8) (L:List V3) (hl:L.length≤1000000) (hf:f=aBE∨f=aCN):FnC Tryz.prog 83 [sD f,.c (.vs (vc L))] (.tup [vD (aCA L),iD 0,bD true]):=by
 refine w83 (bs f) (vc L) ?_;simp only[aAG,aAu,aAz]
 have h1:f≠aCQ:=by rcases hf with rfl | rfl <;> decide
 have h2:f≠aEr:=by rcases hf with rfl | rfl <;> decide
 refine⟨fun h=>absurd h h1,fun _=>⟨fun h=>absurd h h2,fun _=>⟨fun _=>?_,fun hn=>⟨fun _=>?_,fun h=>absurd (hf.resolve_left hn) h⟩⟩⟩⟩
 all_goals
  refine⟨fun x2 x3 x4 x5 k0=>∃ K:Nat,K≤L.length∧x5=(K:Int) - 1∧x2=(aCA (L.drop K)).1∧x3=(aCA (L.drop K)).2.1∧x4=bs (aCA (L.drop K)).2.2∧k0=K,⟨_,L.length,by omega,by rw[i64_in _ (by omega)],by rw[List.drop_length]; rfl,by rw[List.drop_length]; rfl,by rw[List.drop_length]; rfl,rfl⟩,?_⟩;rintro K x2 x3 x4 x5 ⟨_,hK,rfl,rfl,rfl,rfl,rfl⟩;refine⟨fun hi=>⟨by omega,aAN _,aN0 _ _ (by omega) (by omega),?_⟩,fun hi=>?_⟩
  · rw[vc_0 _ _ (by omega) (by omega),show ((K:Int) - 1).toNat=K - 1 by omega];have hd:=aSN L (K - 1) (by omega);rw[show K - 1+1=K by omega] at hd;refine⟨fun h=>⟨by omega,aAN _,?_,?_⟩,fun h=>?_⟩
    · have:=vc_k L ((K:Int) - 1) (by omega) (by omega)
      rwa [show ((K:Int) - 1).toNat=K - 1 by omega] at this
    · rw[vc_1 _ _ (by omega) (by omega),vc_2 _ _ (by omega) (by omega),show ((K:Int) - 1).toNat=K - 1 by omega];refine⟨K - 1,by omega,K - 1,by omega,by rw[i64_in _ (by omega)]; omega,?_,?_,?_,rfl⟩ <;> rw[hd,aCA,if_neg h]
    · refine⟨K - 1,by omega,K - 1,by omega,by rw[i64_in _ (by omega)]; omega,?_,?_,?_,rfl⟩ <;> rw[hd,aCA,if_pos (Classical.not_not.1 h)]
  · rw[show K=0 by omega,List.drop_zero]
theorem aIT (v:V3) (L:List V3):FnC Tryz.prog 83 [sD aCQ,.c (.vs (vc (v::L)))] (.tup [vD (2,0,aPU v.1),iD 0,bD true]):=by
 refine w83 (bs aCQ) (vc (v::L)) ?_;simp only[aAG,aAu];refine⟨fun _=>⟨by simp[aAz],aAN _,vc_k _ _ (by omega) (by simp),?_⟩,fun h=>absurd rfl h⟩;rw[aBl _ (0:Int) (by omega) (by simp)];exact⟨_,aVD v,_,_,_,_,aCI _,rfl⟩
theorem aJX (v:V3) (L:List V3) (hv:Vs v):FnC Tryz.prog 83 [sD aEr,.c (.vs (vc (v::L)))] (.tup [vD (2,0,aDn v),iD 0,bD true]):=by
 refine w83 (bs aEr) (vc (v::L)) ?_;simp only[aAG,aAu];refine⟨fun h=>absurd h (by decide),fun _=>⟨fun _=>⟨by simp[aAz],aAN _,vc_k _ _ (by omega) (by simp),?_⟩,fun h=>absurd rfl h⟩⟩;rw[aBl _ (0:Int) (by omega) (by simp)];exact⟨_,aIR v hv.2.1 hv.2.2,_,_,_,_,aCI _,rfl⟩
theorem aI4 (a b:V3) (ha:Vs a) (hb:Vs b):FnC Tryz.prog 83 [sD aCL,.c (.vs (vc [a,b]))] (.tup [vD (if cmpV a b 0=0 then nul else a),iD 0,bD true]):=by
 refine w83 (bs aCL) (vc [a,b]) ?_;simp only[aAG,aAu]
 iterate 4 refine⟨fun h=>absurd h (by decide),fun _=>?_⟩
 refine⟨fun _=>⟨by simp[aAz],aAN _,vc_k _ _ (by omega) (by simp),by simp[aAz],aAN _,vc_k _ _ (by omega) (by simp),?_⟩,fun h=>absurd rfl h⟩;rw[aBl _ (0:Int) (by omega) (by simp),aBl _ (1:Int) (by omega) (by simp)];refine⟨_,aFK a b 0 ha.2.2.sz hb.2.2.sz,fun h=>⟨by simp[aAz],aAN _,vc_k _ _ (by omega) (by simp),?_⟩,fun h=>?_⟩
 · rw[if_neg h]; rfl
 · rw[if_pos (Classical.not_not.1 h)]
end
section
open Go.RowKit Go.IntWalk
def aLd (f:List UInt8) (v:V3):V3×Int :=
 if v.1=1 then (if f=aGe then ((1,if 0<v.2.1 then 1 else if v.2.1<0 then -1 else 0,[]),0) else if v.2.1 = -9223372036854775808 then (nul,9) else ((1,if v.2.1<0 then -v.2.1 else v.2.1,[]),0)) else (nul,11)
theorem aSV (f:List UInt8) (v:V3) (h:I64 v.2.1):FnC Tryz.prog 112 [sD f,vD v] (.tup [vD (aLd f v).1,iD (aLd f v).2]):=by
 refine w112 (bs f) v.1 v.2.1 (bs v.2.2) ?_;simp only[aAG,aAu];unfold aLd;unfold I64 at h;refine⟨fun h1=>by rw[if_neg h1],fun h1=>?_⟩;rw[if_pos (Classical.not_not.1 h1)];refine⟨fun h2=>?_,fun h2=>⟨fun h3=>?_,fun h3=>?_⟩⟩
 · rw[if_pos (show f=aGe from h2)];refine⟨_,_,_,_,aL6 _,?_⟩
   have e:(if decide ((if decide (-1<v.2.1)=true then v.2.1 else -1)<1)=true then (if decide (-1<v.2.1)=true then v.2.1 else -1) else 1)=if 0<v.2.1 then 1 else if v.2.1<0 then -1 else 0:=by
    simp only[decide_eq_true_eq]; omega
   rw[←e]
 · rw[if_neg (show ¬ f=aGe from h2),if_pos h3]
 · rw[if_neg (show ¬ f=aGe from h2),if_neg h3];refine⟨_,_,_,_,aL6 _,?_⟩
   have e:(if decide (v.2.1<IntKind.wrap .i64 (0 - v.2.1))=true then IntKind.wrap .i64 (0 - v.2.1) else v.2.1)=if v.2.1<0 then -v.2.1 else v.2.1:=by
    rw[i64_in _ (by omega)];simp only[decide_eq_true_eq]; omega
   rw[←e]
def aG1 (l:List UInt8):List UInt8:=(l.reverse.dropWhile (· == 32)).reverse
theorem aLA (m:List UInt8):aG1 (m++[32])=aG1 m:=by simp[aG1]
theorem aLG (m:List UInt8) (c:UInt8) (h:c≠32):aG1 (m++[c])=m++[c]:=by simp[aG1,List.dropWhile_cons,h]
theorem b32 (b:UInt8):((b.toNat:Int)=32)↔b=32:=⟨fun h=>aHX (by rw[h]; rfl),fun h=>by rw[h]; rfl⟩
theorem aPA (l:List UInt8) (hs:Sm l):FnC Tryz.prog 118 [sD l] (sD (aG1 l)):=by
 unfold Sm at hs;refine w118 (bs l) ?_;refine⟨fun x k=>∃ m:List UInt8,x=bs m∧m.length≤l.length∧aG1 l=aG1 m∧k=m.length,⟨_,l,rfl,Nat.le_refl _,rfl,rfl⟩,?_⟩;rintro k x ⟨m,rfl,hm,ht,rfl⟩;rw[aAg,aAr,b32,ht];refine⟨fun h=>by rw[i64_in _ (by omega)]; omega,fun h=>?_,fun h=>?_⟩
 · obtain⟨h1,h2⟩:=h;rw[i64_in _ (by omega)] at h2 ⊢;rw[show ((m.length:Int) - 1).toNat=m.length - 1 by omega] at h2 ⊢;refine⟨by omega,m.length - 1,by omega,m.take (m.length - 1),?_,by rw[List.length_take]; omega,?_,by rw[List.length_take]; omega⟩
   · rw[aAT]; rfl
   · have:=aDx m (m.length - 1) (by omega)
     rw[show m.length - 1+1=m.length by omega,List.take_length,h2] at this;rw[←aLA (m.take (m.length - 1)),←this]
 · by_cases h0:m.length=0
   · rw[List.length_eq_zero_iff.1 h0]; rfl
   · have h2:m.getD (m.length - 1) 0≠32:=fun e=>h ⟨by omega,by rw[i64_in _ (by omega),show ((m.length:Int) - 1).toNat=m.length - 1 by omega]; exact e⟩
     have:=aDx m (m.length - 1) (by omega)
     rw[show m.length - 1+1=m.length by omega,List.take_length] at this;have e:=aLG (m.take (m.length - 1)) _ h2;rw[←this] at e;rw[e]
end
section
open Go.RowKit Go.IntWalk
def aB9 (l:List UInt8):List UInt8:=l.dropWhile (· == 32)
theorem aDW : ∀ l:List UInt8,(aB9 l).length≤l.length
 | []=>by simp[aB9]
 | a::t=>by
  have:=aDW t
  unfold aB9 at this ⊢;rw[List.dropWhile_cons];split
  · simp only[List.length_cons]; omega
  · exact Nat.le_refl _
theorem aIz : ∀ l:List UInt8,l.drop (l.length - (aB9 l).length)=aB9 l
 | []=>by simp[aB9]
 | a::t=>by
  have h1:=aDW t;have h2:=aIz t;unfold aB9 at h1 h2 ⊢;rw[List.dropWhile_cons];split
  · rw[List.length_cons,show t.length+1 - (List.dropWhile (· == 32) t).length=(t.length - (List.dropWhile (· == 32) t).length)+1 by omega,List.drop_succ_cons,h2]
  · rw[Nat.sub_self,List.drop_zero]
theorem aLO (l:List UInt8) (K:Nat) (hK:K<l.length) (h:l.getD K 0=32):aB9 (l.drop K)=aB9 (l.drop (K+1)):=by
 rw[aIu l K hK,h,aB9,List.dropWhile_cons,if_pos (by decide)]; rfl
theorem aKX (l:List UInt8) (K:Nat) (hK:K<l.length) (h:l.getD K 0≠32):aB9 (l.drop K)=l.drop K:=by
 rw[aIu l K hK,aB9,List.dropWhile_cons,if_neg (by simpa using h)]
theorem aSs (l:List UInt8) (hs:Sm l):FnC Tryz.prog 119 [sD l] (iD ((l.length:Int) - ((aB9 l).length:Int))):=by
 unfold Sm at hs;refine w119 (bs l) ?_;rw[aAg];refine⟨fun x k=>∃ K:Nat,x=K∧K≤l.length∧aB9 l=aB9 (l.drop K)∧k=l.length - K,⟨_,0,rfl,by omega,by simp,rfl⟩,?_⟩;rintro k x ⟨K,rfl,hK,ht,rfl⟩;rw[Int.toNat_natCast];refine⟨fun hi=>⟨fun h=>?_,fun h=>?_⟩,fun hi=>?_⟩
 · have h32:l.getD K 0≠32:=fun e=>h (by rw[aFz l K (by omega) (by rw[e]; decide),e]; rfl);rw[ht,aKX l K (by omega) h32,List.length_drop,show (l.length:Int) - ((l.length - K:Nat):Int)=K by omega]
 · have h32:l.getD K 0=32:=by
    by_cases ha:(l.getD K 0).toNat<128
    · rw[aFz l K (by omega) ha] at h;exact (b32 _).1 (Classical.not_not.1 h)
    · have:=aNd l K (by omega) (by omega)
      omega
   rw[aFz l K (by omega) (by rw[h32]; decide)];exact⟨l.length - (K+1),by omega,K+1,by simp,by omega,by rw[ht,aLO l K (by omega) h32],rfl⟩
 · have e:K=l.length:=by omega
   rw[ht,e,List.drop_length,show aB9 ([]:List UInt8)=[] from rfl,show (l.length:Int) - (([]:List UInt8).length:Int)=l.length by simp]
def tupR (r:V3×Int):DV:=.tup [vD r.1,iD r.2]
def fitP (r:V3×Int):V3×Int:=if r.2=0∧4096<(r.1.2.2.length:Int) then (nul,3) else if r.2=0 then (r.1,0) else (nul,r.2)
theorem aSD (r:V3×Int):fitQ r.1 r.2=tupR (fitP r):=by
 unfold fitQ fitP tupR;split
 · rfl
 · split <;> rfl
theorem aNb (l:List UInt8):(bs l).extract ((l.length:Int) - ((aB9 l).length:Int)).toNat ((l.length:Nat):Int).toNat=bs (aB9 l):=by
 have:=aDW l
 rw[aAT,Int.toNat_natCast,List.take_length,show ((l.length:Int) - ((aB9 l).length:Int)).toNat=l.length - (aB9 l).length by omega,aIz]
section
variable (v:V3) (R:List V3) (hv:Vs v)
include hv
theorem aGL (f:List UInt8) (hf:f=wAbs∨f=aGe):FnC Tryz.prog 84 [sD f,.c (.vs (vc (v::R)))] (tupR (aLd f v)):=by
 refine w84 (bs f) (vc (v::R)) ⟨by simp[aAz],aAN _,vc_k _ _ (by omega) (by simp),?_⟩;rw[aBl _ (0:Int) (by omega) (by simp),vc_0 _ (0:Int) (by omega) (by simp)];refine⟨_,aCX v hv,?_⟩;simp only[aAG,aAu];rcases hf with rfl | rfl
 · exact⟨fun _=>⟨_,_,_,_,aSV wAbs v hv.2.1,rfl⟩,fun h=>absurd rfl h⟩
 · exact⟨fun h=>absurd h (by decide),fun _=>⟨fun _=>⟨_,_,_,_,aSV aGe v hv.2.1,rfl⟩,fun h=>absurd rfl h⟩⟩
theorem aIN:FnC Tryz.prog 84 [sD aEO,.c (.vs (vc (v::R)))] (tupR ((1,((rawL v).length:Int),[]),0)):=by
 refine w84 (bs aEO) (vc (v::R)) ⟨by simp[aAz],aAN _,vc_k _ _ (by omega) (by simp),?_⟩;rw[aBl _ (0:Int) (by omega) (by simp),vc_0 _ (0:Int) (by omega) (by simp)];refine⟨_,aCX v hv,?_⟩;simp only[aAG,aAu,aAg]
 iterate 2 refine⟨fun h=>absurd h (by decide),fun _=>?_⟩
 exact⟨fun _=>⟨_,_,_,_,aL6 _,rfl⟩,fun h=>absurd rfl h⟩
theorem aNE:FnC Tryz.prog 84 [sD wHex,.c (.vs (vc (v::R)))] (tupR ((2,0,hexL (rawL v)),0)):=by
 refine w84 (bs wHex) (vc (v::R)) ⟨by simp[aAz],aAN _,vc_k _ _ (by omega) (by simp),?_⟩;rw[aBl _ (0:Int) (by omega) (by simp),vc_0 _ (0:Int) (by omega) (by simp)];refine⟨_,aCX v hv,?_⟩;simp only[aAG,aAu]
 iterate 3 refine⟨fun h=>absurd h (by decide),fun _=>?_⟩
 exact⟨fun _=>⟨_,aSB (rawL v) (aBv hv),_,_,_,_,aCI _,rfl⟩,fun h=>absurd rfl h⟩
def letV (v:V3) (s:List UInt8):V3×Int:=if v.1=3 then (nul,11) else ((2,0,s),0)
theorem aJP:FnC Tryz.prog 84 [sD aFU,.c (.vs (vc (v::R)))] (tupR (letV v (upL (rawL v)))):=by
 refine w84 (bs aFU) (vc (v::R)) ⟨by simp[aAz],aAN _,vc_k _ _ (by omega) (by simp),?_⟩;rw[aBl _ (0:Int) (by omega) (by simp),vc_0 _ (0:Int) (by omega) (by simp)];refine⟨_,aCX v hv,?_⟩;have hc:=aTZ (rawL v) (aBv hv).sz;simp only[aAG,aAu]
 iterate 8 refine⟨fun h=>absurd h (by decide),fun _=>?_⟩
 refine⟨fun h=>by rw[letV,if_pos (show v.1=3 from h)] <;> rfl,fun h=>?_⟩;rw[letV,if_neg (show ¬ v.1=3 from h)];exact⟨fun _=>⟨_,hc,_,_,_,_,aCI _,rfl⟩,fun h=>absurd rfl h⟩
theorem aJU:FnC Tryz.prog 84 [sD aHC,.c (.vs (vc (v::R)))] (tupR (letV v (aAn (rawL v)))):=by
 refine w84 (bs aHC) (vc (v::R)) ⟨by simp[aAz],aAN _,vc_k _ _ (by omega) (by simp),?_⟩;rw[aBl _ (0:Int) (by omega) (by simp),vc_0 _ (0:Int) (by omega) (by simp)];refine⟨_,aCX v hv,?_⟩;have hc:=aAL (rawL v) (aBv hv).sz;simp only[aAG,aAu]
 iterate 8 refine⟨fun h=>absurd h (by decide),fun _=>?_⟩
 refine⟨fun h=>by rw[letV,if_pos (show v.1=3 from h)] <;> rfl,fun h=>?_⟩;rw[letV,if_neg (show ¬ v.1=3 from h)]
 iterate 1 refine⟨fun h=>absurd h (by decide),fun _=>?_⟩
 exact⟨fun _=>⟨_,hc,_,_,_,_,aCI _,rfl⟩,fun h=>absurd rfl h⟩
theorem aLU:FnC Tryz.prog 84 [sD aN9,.c (.vs (vc (v::R)))] (tupR (letV v (aG1 (aB9 (rawL v))))):=by
 refine w84 (bs aN9) (vc (v::R)) ⟨by simp[aAz],aAN _,vc_k _ _ (by omega) (by simp),?_⟩;rw[aBl _ (0:Int) (by omega) (by simp),vc_0 _ (0:Int) (by omega) (by simp)];refine⟨_,aCX v hv,?_⟩;have hs:=aBv hv;have hl:=aDW (rawL v)
 have hs2:Sm (aB9 (rawL v)):=by unfold Sm at hs ⊢; omega
 have hc:=aSs (rawL v) hs;have hr:=aPA (aB9 (rawL v)) hs2;simp only[aAG,aAu]
 iterate 8 refine⟨fun h=>absurd h (by decide),fun _=>?_⟩
 refine⟨fun h=>by rw[letV,if_pos (show v.1=3 from h)] <;> rfl,fun h=>?_⟩;rw[letV,if_neg (show ¬ v.1=3 from h)]
 iterate 2 refine⟨fun h=>absurd h (by decide),fun _=>?_⟩
 refine⟨fun _=>⟨_,hc,?_⟩,fun h=>absurd rfl h⟩;rw[aAg,aNb];exact⟨⟨by omega,by omega,by omega⟩,_,hr,_,_,_,_,aCI _,rfl⟩
theorem aKh:FnC Tryz.prog 84 [sD aHA,.c (.vs (vc (v::R)))] (tupR (letV v (aB9 (rawL v)))):=by
 refine w84 (bs aHA) (vc (v::R)) ⟨by simp[aAz],aAN _,vc_k _ _ (by omega) (by simp),?_⟩;rw[aBl _ (0:Int) (by omega) (by simp),vc_0 _ (0:Int) (by omega) (by simp)];refine⟨_,aCX v hv,?_⟩;have hs:=aBv hv;have hl:=aDW (rawL v);have hc:=aSs (rawL v) hs;simp only[aAG,aAu]
 iterate 8 refine⟨fun h=>absurd h (by decide),fun _=>?_⟩
 refine⟨fun h=>by rw[letV,if_pos (show v.1=3 from h)] <;> rfl,fun h=>?_⟩;rw[letV,if_neg (show ¬ v.1=3 from h)]
 iterate 3 refine⟨fun h=>absurd h (by decide),fun _=>?_⟩
 refine⟨fun _=>⟨_,hc,?_⟩,fun h=>absurd rfl h⟩;rw[aAg,aNb];exact⟨⟨by omega,by omega,by omega⟩,_,_,_,_,aCI _,rfl⟩
theorem aKl:FnC Tryz.prog 84 [sD aG0,.c (.vs (vc (v::R)))] (tupR (letV v (aG1 (rawL v)))):=by
 refine w84 (bs aG0) (vc (v::R)) ⟨by simp[aAz],aAN _,vc_k _ _ (by omega) (by simp),?_⟩;rw[aBl _ (0:Int) (by omega) (by simp),vc_0 _ (0:Int) (by omega) (by simp)];refine⟨_,aCX v hv,?_⟩;have hs:=aBv hv;have hc:=aPA (rawL v) hs;simp only[aAG,aAu]
 iterate 8 refine⟨fun h=>absurd h (by decide),fun _=>?_⟩
 refine⟨fun h=>by rw[letV,if_pos (show v.1=3 from h)] <;> rfl,fun h=>?_⟩;rw[letV,if_neg (show ¬ v.1=3 from h)]
 iterate 4 refine⟨fun h=>absurd h (by decide),fun _=>?_⟩
 exact⟨_,hc,_,_,_,_,aCI _,rfl⟩
end
def aH7 (a b:V3):V3×Int:=if (a.1=3)↔(b.1=3) then ((1,aBW (rawL a) (rawL b) 0+1,[]),0) else (nul,11)
theorem aSo (a b:V3):aMq a b=tupR (aH7 a b):=by
 unfold aMq aH7 tupR;split <;> rfl
theorem aIO (v a:V3) (hv:Vs v) (ha:Vs a):FnC Tryz.prog 84 [sD aF7,.c (.vs (vc [v,a]))] (tupR (aH7 v a)):=by
 refine w84 (bs aF7) (vc [v,a]) ⟨by simp[aAz],aAN _,vc_k _ _ (by omega) (by simp),?_⟩;rw[aBl _ _ (by omega) (by simp),aBl _ (1:Int) (by omega) (by simp)];refine⟨_,aCX v hv,?_⟩;have hc:=aUp v a hv ha;rw[aSo] at hc;simp only[aAG,aAu]
 iterate 4 refine⟨fun h=>absurd h (by decide),fun _=>?_⟩
 exact⟨fun _=>⟨by simp[aAz],aAN _,vc_k _ _ (by omega) (by simp),_,_,_,_,hc,rfl⟩,fun h=>absurd rfl h⟩
noncomputable def aNK (a b:V3):V3×Int:=if a.1=2∧b.1=2 then ((1,if likB a.2.2 b.2.2 then 1 else 0,[]),0) else (nul,11)
theorem aLc (v a:V3) (hv:Vs v) (ha:Vs a):FnC Tryz.prog 84 [sD aJz,.c (.vs (vc [v,a]))] (tupR (aNK v a)):=by
 refine w84 (bs aJz) (vc [v,a]) ⟨by simp[aAz],aAN _,vc_k _ _ (by omega) (by simp),?_⟩;rw[aBl _ _ (by omega) (by simp)];refine⟨_,aCX v hv,?_⟩;have hc:=aSE v.2.2 a.2.2 hv.2.2 ha.2.2;simp only[aAG,aAu]
 iterate 5 refine⟨fun h=>absurd h (by decide),fun _=>?_⟩
 refine⟨fun _=>?_,fun h=>absurd rfl h⟩;rw[vc_0 _ (0:Int) (by omega) (by simp),vc_0 _ (1:Int) (by omega) (by simp),vc_2 _ (0:Int) (by omega) (by simp),vc_2 _ (1:Int) (by omega) (by simp)];refine⟨fun _=>by simp[aAz],fun _=>aAN _,fun _=>aN0 _ _ (by omega) (by simp),fun h=>?_,fun h=>?_⟩
 · rw[aNK,if_neg (fun e=>h.elim (fun h=>h e.1) (fun h=>h e.2))]; rfl
 · rw[aNK,if_pos ⟨Classical.not_not.1 fun e=>h (.inl e),Classical.not_not.1 fun e=>h (.inr e)⟩];exact⟨by simp[aAz],aAN _,aTs _ _ (by omega) (by simp),_,hc,_,_,_,aFM _,rfl⟩
def aDy (v:V3) (R:List V3):V3×Int:=match R with
 | [a]=>if a.1=1 then (subV v a.2.1 none,0) else (nul,11)
 | [a,b]=>if a.1=1∧b.1=1 then (subV v a.2.1 (some b.2.1),0) else (nul,11)
 | _=>(nul,11)
theorem aIS (v:V3) (R:List V3) (hv:Vs v) (hR : ∀ a∈R,Vs a) (hn:R.length=1∨R.length=2):FnC Tryz.prog 84 [sD aDH,.c (.vs (vc (v::R)))] (tupR (aDy v R)):=by
 refine w84 (bs aDH) (vc (v::R)) ⟨by simp[aAz],aAN _,vc_k _ _ (by omega) (by simp),?_⟩;rw[aBl _ _ (by omega) (by simp)];refine⟨_,aCX v hv,?_⟩
 have hc:FnC Tryz.prog 116 [.c (.vs (vc (v::R)))] (tupR (aDy v R)):=by
  match R,hn with
  | [a],_ =>
   have:=aQu v a hv (hR a (by simp))
   unfold tupR aDy;simp only[];split
   · rename_i h; rw[if_pos h] at this; exact this
   · rename_i h; rw[if_neg h] at this; exact this
  | [a,b],_ =>
   have:=aP9 v a b hv (hR a (by simp)) (hR b (by simp))
   unfold tupR aDy;simp only[];split
   · rename_i h; rw[if_pos h] at this; exact this
   · rename_i h; rw[if_neg h] at this; exact this
  | [],hn=>simp at hn
  | _::_::_::_,hn=>simp at hn
 simp only[aAG,aAu]
 iterate 7 refine⟨fun h=>absurd h (by decide),fun _=>?_⟩
 exact⟨fun _=>⟨_,_,_,_,hc,rfl⟩,fun h=>absurd rfl h⟩
end
section
open Go.RowKit Go.IntWalk
theorem aGr (s t:List UInt8) : ∀ i,aBW s t i = -1∨((i:Int)≤aBW s t i∧aBW s t i+t.length≤s.length):=fun i=>by
 induction h:s.length - i using Nat.strongRecOn generalizing i with
 | _ n ih =>
  rw[aBW];split
  · split
    · right; omega
    · split
      · rcases ih _ (by omega) (i+1) rfl with h1 | ⟨h1,h2⟩
        · exact .inl h1
        · right; omega
      · exact .inl rfl
  · exact .inl rfl
def aRd (s t u:List UInt8) (i:Nat):List UInt8 :=
 if h:0≤aBW s t i∧0<t.length then (s.take (aBW s t i).toNat).drop i++u++aRd s t u ((aBW s t i).toNat+t.length) else s.drop i
termination_by s.length - i
decreasing_by
 have:=aGr s t i
 omega
def aI3 (s t u b:List UInt8) (i:Nat):List UInt8 :=
 if h:(b.length≤4096∧0≤aBW s t i)∧0<t.length then aI3 s t u (b++(s.take (aBW s t i).toNat).drop i++u) ((aBW s t i).toNat+t.length) else b++s.drop i
termination_by s.length - i
decreasing_by
 have:=aGr s t i
 omega
def txt (s:List UInt8):V3×Int:=((2,0,s),0)
theorem aML {s:List UInt8} (h:4096<s.length):fitP (txt s)=(nul,3):=by
 unfold fitP txt;rw[if_pos ⟨rfl,by show (4096:Int)<(s.length:Nat); omega⟩]
theorem aVS (s t u:List UInt8) : ∀ (n i:Nat),s.length - i≤n→∀ b:List UInt8,fitP (txt (aI3 s t u b i))=fitP (txt (b++aRd s t u i)):=by
 intro n
 induction n using Nat.strongRecOn with
 | _ n ih =>
  intro i hn b;rw[aI3,aRd];have hf:=aGr s t i;by_cases h2:0≤aBW s t i∧0<t.length
  · by_cases h1:b.length≤4096
    · rw[dif_pos ⟨⟨h1,h2.1⟩,h2.2⟩,dif_pos h2]
      have:=ih (s.length - ((aBW s t i).toNat+t.length)) (by omega) _ (Nat.le_refl _) (b++(s.take (aBW s t i).toNat).drop i++u)
      rw[this];simp only[List.append_assoc]
    · rw[dif_neg (fun e=>h1 e.1.1),dif_pos h2,aML (by rw[List.length_append]; omega),aML (by rw[List.length_append]; omega)]
  · rw[dif_neg (fun e=>h2 ⟨e.1.2,e.2⟩),dif_neg h2]
def aTd (s t u:List UInt8):List UInt8:=if t=[] then s else aRd s t u 0
def aNZ (s t u:List UInt8):List UInt8:=if t=[] then s else aI3 s t u [] 0
theorem aRs (s t u:List UInt8):fitP (txt (aNZ s t u))=fitP (txt (aTd s t u)):=by
 unfold aNZ aTd;split
 · rfl
 · exact aVS s t u _ 0 (Nat.le_refl _) []
theorem aOI (l:List UInt8):bs ((bc l).map fun el=>UInt8.ofNat (el.getD 0 default).int.toNat)=bs l:=aHG l
def anyB (L:List V3):Bool:=L.any (fun v=>v.1==3)
def aHO (L:List V3) (s:List UInt8):V3×Int:=if anyB L=true then (nul,11) else txt s
theorem aPk (L:List V3) (K:Nat) (h:K<L.length) (h1:anyB (L.take K)=false) (h2 : ¬ (L.getD K nul).1=3):anyB (L.take (K+1))=false:=by
 unfold anyB at h1 ⊢;rw[aNh L K h,List.any_append,h1];simpa using h2
theorem aSc (L:List V3) (K:Nat) (h:K<L.length) (h2:(L.getD K nul).1=3):anyB L=true:=by
 unfold anyB;exact List.any_eq_true.2 ⟨_,aGZ L K h,by simpa using h2⟩
set_option maxHeartbeats 1000000 in
theorem aPc (v a b:V3) (hv:Vs v) (ha:Vs a) (hb:Vs b):FnC Tryz.prog 115 [.c (.vs (vc [v,a,b]))] (tupR (aHO [v,a,b] (aNZ (rawL v) (rawL a) (rawL b)))):=by
 have hc0:=aCX v hv;have hc1:=aCX a ha;have hc2:=aCX b hb;have s0:=aBv hv;have s1:=aBv ha;have s2:=aBv hb;refine w115 (vc [v,a,b]) ?_;rw[aAz];refine⟨fun i m=>∃ K:Nat,i=K∧K≤3∧anyB ([v,a,b].take K)=false∧m=3 - K,⟨_,0,rfl,by omega,rfl,rfl⟩,?_⟩;rintro m i ⟨K,rfl,hK,hn,rfl⟩;have hl:[v,a,b].length=3:=rfl;refine⟨fun hi=>⟨by omega,aAN _,vc_k _ _ (by omega) (by omega),?_⟩,fun hi=>?_⟩
 · rw[vc_0 _ _ (by omega) (by omega),Int.toNat_natCast];refine⟨fun h=>?_,fun h=>?_⟩
   · rw[aHO,if_pos (aSc _ K (by omega) h)]; rfl
   · refine⟨_,?_,K+1,by rw[i64_in _ (by omega)]; omega,by omega,aPk _ K (by omega) hn h,rfl⟩;omega
 · have e:K=3:=by omega
   subst e;rw[aHO,if_neg (by rw[show anyB [v,a,b]=false from hn]; simp)];rw[aBl _ (0:Int) (by omega) (by simp),aBl _ (1:Int) (by omega) (by simp),aBl _ (2:Int) (by omega) (by simp)];refine⟨by omega,aAN _,vc_k _ _ (by omega) (by simp),_,hc0,by omega,aAN _,vc_k _ _ (by omega) (by simp),_,hc1,by omega,aAN _,vc_k _ _ (by omega) (by simp),_,hc2,?_⟩;generalize rawL v=s at *;generalize rawL a=t at *;generalize rawL b=u at *;clear hc0 hc1 hc2;unfold Sm at s0 s1 s2;simp only[aAG,aAu,aAg];refine⟨fun h=>?_,fun h=>?_⟩
   · rw[aNZ,if_pos h];exact⟨_,_,_,_,aCI _,rfl⟩
   · rw[aNZ,if_neg h];have ht:0<t.length:=List.length_pos_iff.2 h;refine⟨fun rows i m=>∃ (bb:List UInt8) (I:Nat),rows=bc bb∧i=I∧I≤s.length∧bb.length≤3000000∧aI3 s t u [] 0=aI3 s t u bb I∧m=s.length - I,⟨_,[],0,rfl,rfl,by omega,by simp,rfl,rfl⟩,?_⟩;rintro m rows i ⟨bb,I,rfl,rfl,hI,hbb,hr,rfl⟩;have hf:=aGr s t I;rw[aBu]
     have he : ∀ n,((bs s).extract (I:Int).toNat n)=bs ((s.take n).drop I):=fun n=>by rw[aAT,Int.toNat_natCast]
     have hlen : ∀ n,((s.take n).drop I).length≤s.length:=fun n=>by rw[List.length_drop,List.length_take]; omega
     have hlast:(s.take s.length).drop I=s.drop I:=by rw[List.take_length]
     refine⟨fun h1=>⟨_,aSr s t I s0 s1 hI,fun h2=>?_,fun h2=>?_⟩,fun h1=>?_⟩
     · rw[he,aAg,Int.toNat_natCast]
       have:=hlen s.length
       refine⟨by omega,by omega,?_⟩;rintro x8 rfl;rw[aLZ,aER];refine⟨aEq _,?_⟩;rw[aOI,hlast,hr,aI3,dif_neg (fun e=>by omega)];exact⟨_,_,_,_,aCI _,rfl⟩
     · rw[he,aAg]
       have:=hlen (aBW s t I).toNat
       refine⟨by omega,by omega,?_⟩;rintro x8 rfl;rw[aLZ,aER,aBu,List.length_append];refine⟨by omega,?_⟩;rintro x9 rfl;rw[aLZ,aER];refine⟨s.length - ((aBW s t I).toNat+t.length),by omega,_,(aBW s t I).toNat+t.length,rfl,by rw[i64_in _ (by omega)]; omega,by omega,?_,?_,rfl⟩
       · simp only[List.length_append]; omega
       · rw[hr,aI3,dif_pos ⟨⟨by omega,by omega⟩,ht⟩]
     · rw[he,aAg,Int.toNat_natCast]
       have:=hlen s.length
       refine⟨by omega,by omega,?_⟩;rintro x8 rfl;rw[aLZ,aER];refine⟨aEq _,?_⟩;rw[aOI,hlast,hr,aI3,dif_neg (fun e=>by omega)];exact⟨_,_,_,_,aCI _,rfl⟩
theorem aHK (v a b:V3) (hv:Vs v) (ha:Vs a) (hb:Vs b):FnC Tryz.prog 84 [sD aCG,.c (.vs (vc [v,a,b]))] (tupR (aHO [v,a,b] (aNZ (rawL v) (rawL a) (rawL b)))):=by
 refine w84 (bs aCG) (vc [v,a,b]) ⟨by simp[aAz],aAN _,vc_k _ _ (by omega) (by simp),?_⟩;rw[aBl _ _ (by omega) (by simp)];refine⟨_,aCX v hv,?_⟩;have hc:=aPc v a b hv ha hb;simp only[aAG,aAu]
 iterate 6 refine⟨fun h=>absurd h (by decide),fun _=>?_⟩
 exact⟨fun _=>⟨_,_,_,_,hc,rfl⟩,fun h=>absurd rfl h⟩
theorem aRw (L:List V3) (s t:List UInt8) (h:fitP (txt s)=fitP (txt t)):fitP (aHO L s)=fitP (aHO L t):=by
 unfold aHO;split
 · rfl
 · exact h
end
section
open Go.RowKit Go.IntWalk
def ones:List (List UInt8):=[wAbs,aGe,aEO,aFU,aHC,aN9,aHA,aG0,wHex,aEr,aCQ]
end
section
open Go.RowKit Go.IntWalk
def trA (f l:List UInt8):List UInt8:=if f=aG0 then l else aB9 l
def trB (f l:List UInt8):List UInt8:=if f=aHA then l else aG1 l
def aVJ (f:List UInt8) (c:UInt8):UInt8:=if (f==aFU) then upp c else low c
def aJh (f:List UInt8) (v:V3):V3×Int :=
 if f=aEO then ((1,((rawL v).length:Int),[]),0)
 else if f=wHex then txt (hexL (rawL v))
 else if f=wAbs∨f=aGe then aLd f v
 else letV v (if f=aFU∨f=aHC then (rawL v).map (aVJ f) else trB f (trA f (rawL v)))
end
section
open Go.RowKit Go.IntWalk
def upto (s:List UInt8) (f:Int) (many:Option Int):Int:=match many with
 | none=>s.length
 | some m=>if m<1 then 0 else f - 1+m
end
section
open Go.RowKit Go.IntWalk
end
section
open Go.RowKit Go.IntWalk
noncomputable def sevV (f:List UInt8) (L:List V3):V3×Int :=
 if f=aF7 then aH7 (L.getD 0 nul) (L.getD 1 nul)
 else if f=aCG then aHO L (aTd (rawL (L.getD 0 nul)) (rawL (L.getD 1 nul)) (rawL (L.getD 2 nul)))
 else if f=aDH then aDy (L.getD 0 nul) L.tail
 else if f=aJz then aNK (L.getD 0 nul) (L.getD 1 nul)
 else aJh f (L.getD 0 nul)
noncomputable def aLY (f:List UInt8) (L:List V3):V3×Int :=
 if f=aCQ then txt (aPU (L.getD 0 nul).1)
 else if f=aEr then txt (aDn (L.getD 0 nul))
 else if f=aC9 then catR L
 else if f=aBE∨f=aCN then (aCA L,0)
 else if f=aCL then (if cmpV (L.getD 0 nul) (L.getD 1 nul) 0=0 then nul else L.getD 0 nul,0)
 else if L.any (fun v=>v.1==0)=true then (nul,0)
 else sevV f L
noncomputable def resC (op:List UInt8) (L:List V3):V3×Int :=
 if aCm (aAn op) L.length=true then (if badV L=0 then fitP (aLY (aAn op) L) else (nul,badV L)) else (nul,25)
theorem aCq (f:List UInt8) (n:Int) (h:aCm f n=true):(f∈ones∧n=1)∨((f=aF7∨f=aCN∨f=aCL∨f=aJz)∧n=2)∨(f=aCG∧n=3)∨(f=aDH∧(n=2∨n=3))∨((f=aBE∨f=aC9)∧1≤n):=by
 unfold aCm at h
 have e:f∈ones↔(f=wAbs∨f=aGe∨f=aEO∨f=aFU∨f=aHC∨f=aN9∨f=aHA∨f=aG0∨f=wHex∨f=aEr∨f=aCQ):=by simp[ones]
 rw[e];split at h
 · rename_i h0; exact .inl ⟨h0,by simpa using h⟩
 · split at h
   · rename_i h0; exact .inr (.inl ⟨h0,by simpa using h⟩)
   · split at h
     · rename_i h0; exact .inr (.inr (.inl ⟨h0,by simpa using h⟩))
     · split at h
       · rename_i h0; exact .inr (.inr (.inr (.inl ⟨h0,by simpa using h⟩)))
       · split at h
         · rename_i h0; exact .inr (.inr (.inr (.inr ⟨h0,by simpa using h⟩)))
         · cases h
theorem aO9 (f:List UInt8) (n:Int) (h:aCm f n=true) (hf:f∈ones):n=1:=by
 rcases aCq f n h with ⟨_,h⟩ | ⟨h1,_⟩ | ⟨h1,_⟩ | ⟨h1,_⟩ | ⟨h1,_⟩
 · exact h
 · rcases h1 with rfl | rfl | rfl | rfl <;> exact absurd hf (by decide)
 · subst h1; exact absurd hf (by decide)
 · subst h1; exact absurd hf (by decide)
 · rcases h1 with rfl | rfl <;> exact absurd hf (by decide)
theorem aG3 (f:List UInt8) (n:Int) (h:aCm f n=true) (hf:f=aF7∨f=aCN∨f=aCL∨f=aJz):n=2:=by
 rcases aCq f n h with ⟨h1,_⟩ | ⟨_,h⟩ | ⟨h1,_⟩ | ⟨h1,_⟩ | ⟨h1,_⟩
 · rcases hf with rfl | rfl | rfl | rfl <;> exact absurd h1 (by decide)
 · exact h
 · subst h1; exact absurd hf (by decide)
 · subst h1; exact absurd hf (by decide)
 · rcases h1 with rfl | rfl <;> exact absurd hf (by decide)
theorem aLF (n:Int) (h:aCm aCG n=true):n=3:=by
 rcases aCq _ n h with ⟨h1,_⟩ | ⟨h1,_⟩ | ⟨_,h⟩ | ⟨h1,_⟩ | ⟨h1,_⟩
 · exact absurd h1 (by decide)
 · exact absurd h1 (by decide)
 · exact h
 · exact absurd h1 (by decide)
 · exact absurd h1 (by decide)
theorem aP0 (n:Int) (h:aCm aDH n=true):n=2∨n=3:=by
 rcases aCq _ n h with ⟨h1,_⟩ | ⟨h1,_⟩ | ⟨h1,_⟩ | ⟨_,h⟩ | ⟨h1,_⟩
 · exact absurd h1 (by decide)
 · exact absurd h1 (by decide)
 · exact absurd h1 (by decide)
 · exact h
 · exact absurd h1 (by decide)
theorem aPH (f:List UInt8) (n:Int) (h:aCm f n=true):f∈ones∨f=aF7∨f=aCN∨f=aCL∨f=aJz∨f=aCG∨f=aDH∨f=aBE∨f=aC9:=by
 rcases aCq f n h with ⟨h1,_⟩ | ⟨h1,_⟩ | ⟨h1,_⟩ | ⟨h1,_⟩ | ⟨h1,_⟩
 · exact .inl h1
 · rcases h1 with h1 | h1 | h1 | h1 <;> simp[h1]
 · simp[h1]
 · simp[h1]
 · rcases h1 with h1 | h1 <;> simp[h1]
theorem aVF {L:List V3} (h:(L.length:Int)=1) : ∃ v,L=[v]:=by
 match L,h with
 | [v],_=>exact⟨v,rfl⟩
 | [],h=>simp at h
 | _::_::_,h=>simp at h; omega
theorem aTj {L:List V3} (h:(L.length:Int)=2) : ∃ v a,L=[v,a]:=by
 match L,h with
 | [v,a],_=>exact⟨v,a,rfl⟩
 | [],h=>simp at h
 | [_],h=>simp at h
 | _::_::_::_,h=>simp at h; omega
theorem aVM {L:List V3} (h:(L.length:Int)=3) : ∃ v a b,L=[v,a,b]:=by
 match L,h with
 | [v,a,b],_=>exact⟨v,a,b,rfl⟩
 | [],h=>simp at h
 | [_],h=>simp at h
 | [_,_],h=>simp at h
 | _::_::_::_::_,h=>simp at h; omega
theorem aQF : ∀ {L:List V3},badV L=0→∀ v∈L,aBZ v=0
 | [],_,v,hv=>by cases hv
 | u::L,h,v,hv=>by
  rw[badV] at h;by_cases h0:aBZ u=0
  · rw[if_pos h0] at h;rcases List.mem_cons.1 hv with rfl | hv
    · exact h0
    · exact aQF h v hv
  · rw[if_neg h0] at h; exact absurd h h0
theorem aJM {v:V3} (h:aBZ v=0):Can v∧(v.2.2.length:Int)≤4096:=by
 unfold aBZ at h;split at h
 · cases h
 · rename_i h0;split at h
   · cases h
   · exact⟨h0,by omega⟩
theorem aB4:Can nul:=by simp[Can,nul]
theorem aS8 {r:V3×Int} (h:Can r.1):aBZ (fitP r).1=0:=by
 unfold fitP
 have hn:aBZ nul=0:=by decide
 split
 · exact hn
 · split
   · rename_i h1 h2;show aBZ r.1=0;unfold aBZ;rw[if_neg h,if_neg (fun e=>h1 ⟨h2,e⟩)]
   · exact hn
theorem aHy (s:List UInt8):Can (txt s).1:=by simp[Can,txt]
theorem aJ3 : ∀ {L:List V3},(∀ v∈L,Can v)→Can (aCA L)
 | [],_=>aB4
 | v::L,h=>by
  rw[aCA];split
  · exact aJ3 fun u hu=>h u (by simp[hu])
  · exact h v (by simp)
theorem aTG (L:List V3) (h : ∀ v∈L,Can v) (i:Nat):Can (L.getD i nul):=by
 by_cases hi:i<L.length
 · exact h _ (aGZ L i hi)
 · rw[List.getD_eq_getElem?_getD,List.getElem?_eq_none (by omega)];exact aB4
theorem aLx (n:Int):Can ((1,n,[]):V3):=by simp[Can]
theorem aNI (f:List UInt8) (v:V3):Can (aJh f v).1:=by
 unfold aJh aLd letV
 repeat' split
 all_goals first
  | exact aLx _
  | exact aHy _
  | exact aB4
  | (simp[Can]; done)
theorem aPJ (v:V3) (n:Int) (m:Option Int):Can (subV v n m):=by
 unfold subV Can;split <;> simp
theorem aND (v:V3) (R:List V3):Can (aDy v R).1:=by
 unfold aDy;split
 · split
   · exact aPJ _ _ _
   · exact aB4
 · split
   · exact aPJ _ _ _
   · exact aB4
 · exact aB4
theorem aQ5 (f:List UInt8) (L:List V3) (h : ∀ v∈L,Can v):Can (aLY f L).1:=by
 unfold aLY;split
 · exact aHy _
 split
 · exact aHy _
 split
 · unfold catR;split
   · exact aB4
   · exact aHy _
 split
 · exact aJ3 h
 split
 · show Can (if _ then _ else _)
   split
   · exact aB4
   · exact aTG L h 0
 split
 · exact aB4
 unfold sevV;split
 · unfold aH7;split
   · exact aLx _
   · exact aB4
 split
 · unfold aHO;split
   · exact aB4
   · exact aHy _
 split
 · exact aND _ _
 split
 · unfold aNK;split
   · exact aLx _
   · exact aB4
 · exact aNI _ _
theorem aVi (op:List UInt8) (L:List V3):aBZ (resC op L).1=0:=by
 have hn:aBZ nul=0:=by decide
 unfold resC;split
 · split
   · rename_i h;exact aS8 (aQ5 _ _ fun v hv=>(aJM (aQF h v hv)).1)
   · exact hn
 · exact hn
end
section
open Go.RowKit Go.IntWalk
theorem aD6 (l:List UInt8):I64 (aB5 l).1:=by
 unfold aB5
 repeat' split
 all_goals (constructor <;> simp only[] <;> omega)
def Gd (v:V3):Prop:=Can v∧I64 v.2.1∧v.2.2.length≤4096
theorem aJo {v:V3} (h1:Can v):I64 v.1:=by
 unfold Can at h1;unfold I64;have h2 : ¬ v.1<0:=fun e=>h1 (.inl e);have h3 : ¬ 3<v.1:=fun e=>h1 (.inr (.inl e));omega
theorem Gd.sz {v:V3} (h:Gd v):Sz v.2.2:=by have:=h.2.2; unfold Sz; omega
theorem Gd.vs {v:V3} (h:Gd v):Vs v:=⟨aJo h.1,h.2.1,by have:=h.2.2; unfold Sm; omega⟩
noncomputable def aKR (nt:Bool) (a b:V3):V3×Int :=
 if a.1=0∨b.1=0 then (nul,0) else if ¬ a.1=2∨¬ b.1=2 then (nul,11) else (truV (!(likB a.2.2 b.2.2==nt)) true,0)
def wInt:List UInt8:=[105,110,116]
def aTe:List UInt8:=[116,101,120,116]
def aRh:List UInt8:=[98,108,111,98]
def aKC (op:List UInt8) (v:V3):V3×Int :=
 if op=wInt then aIL v 1 else if op=aRh then aIL v 3 else if op=aTe then aIL v 2 else (nul,1)
noncomputable def aOa (k:Int) (op:List UInt8) (v:V3) (sl:Int) (nt:Bool) (L row:List V3):V3×Int :=
 if k=1 then (v,0)
 else if k=2 then (if sl<0∨(row.length:Int)≤sl then (nul,1) else (row.getD sl.toNat nul,0))
 else if k=3 then unV op (L.getD 0 nul)
 else if k=4 then binV op (L.getD 0 nul) (L.getD 1 nul)
 else if k=5 then (truV (!((cmpV (L.getD 0 nul) (L.getD 1 nul) 0==0)==nt)) true,0)
 else if k=6 then (aNX (inV (L.getD 0 nul) L.tail true) nt,0)
 else if k=7 then (aNX (aGd (aDt [62,61] (L.getD 0 nul) (L.getD 1 nul)) (aDt [60,61] (L.getD 0 nul) (L.getD 2 nul)) false).1 nt,0)
 else if k=8 then aKR nt (L.getD 0 nul) (L.getD 1 nul)
 else if k=10 then resC op L
 else aKC op (L.getD 0 nul)
def aIA (base:Option V3) (c:V3×Int):Bool×Int :=
 if c.2≠0 then (false,c.2) else match base with
  | some b=>((tru (aDt [61] b c.1)).1,(tru (aDt [61] b c.1)).2.2)
  | none=>((tru c.1).1,(tru c.1).2.2)
def aC5 (base:Option V3):List (V3×Int)→V3×Int
 | []=>(nul,0)
 | [x]=>x
 | c::r::Y=>if (aIA base c).2≠0 then (nul,(aIA base c).2) else if (aIA base c).1=true then r else aC5 base Y
def casV (ds:Bool) (X:List (V3×Int)):V3×Int :=
 if ds=true then (match X with
  | []=>(nul,0)
  | b::Y=>if b.2≠0 then (nul,b.2) else aC5 (some b.1) Y)
 else aC5 none X
noncomputable def topV (k:Int) (op:List UInt8) (v:V3) (sl:Int) (nt ds:Bool) (X:List (V3×Int)) (row:List V3):V3×Int :=
 if k=9 then (if mayV k ds X.length≠0 then (nul,mayV k ds X.length) else casV ds X) else aRM k ds X.length X (aOa k op v sl nt (X.map (·.1)) row)
mutual
noncomputable def evX (row:List V3):Xp→V3×Int
 | .mk k op v tb nm sl nt ds args=>topV k op v sl nt ds (evXs row args) row
noncomputable def evXs (row:List V3):List Xp→List (V3×Int)
 | []=>[]
 | e::r=>evX row e::evXs row r
end
theorem aMk (row:List V3) : ∀ l:List Xp,(evXs row l).length=l.length
 | []=>rfl
 | e::r=>by simp[evXs,aMk row r]
mutual
def Fair:Xp→Prop
 | .mk k op v tb nm sl nt ds args=>Gd v∧op.length≤1000∧args.length≤100000∧Fairs args
def Fairs:List Xp→Prop
 | []=>True
 | e::r=>Fair e∧Fairs r
end
theorem Fairs.at : ∀ {l:List Xp},Fairs l→∀ e∈l,Fair e
 | [],_,e,h=>by cases h
 | a::l,hf,e,h=>by
  simp only[Fairs] at hf;rcases List.mem_cons.1 h with rfl | h
  · exact hf.1
  · exact Fairs.at hf.2 e h
end
section
open Go.RowKit Go.IntWalk
instance (s:List UInt8):Decidable (Sm s):=by unfold Sm; infer_instance
mutual
def Fv:Xp→Prop
 | .mk k op v tb nm sl nt ds args=>(I64 k∧Vs v∧I64 sl)∧(Sm op∧Sm tb∧Sm nm)∧args.length≤1000000∧Fvs args
def Fvs:List Xp→Prop
 | []=>True
 | e::r=>Fv e∧Fvs r
end
theorem Fvs.app : ∀ {l r:List Xp},Fvs l→Fvs r→Fvs (l++r)
 | [],r,_,h=>h
 | e::l,r,h1,h2=>by
  simp only[Fvs,List.cons_append] at h1 ⊢;exact⟨h1.1,h1.2.app h2⟩
theorem aCR {e:Xp} (h:Fv e):Fvs [e]:=⟨h,trivial⟩
theorem aIH {e b:Xp} (h:Fv e) (h2:Fv b):Fvs [e,b]:=⟨h,h2,trivial⟩
theorem aAC:Vs nul:=⟨aAm _ (by decide),aAm _ (by decide),by decide⟩
theorem aAO:Sm []:=by unfold Sm; simp
theorem aLR {s:List UInt8} (h:Sm s):Sm (aAn s):=by unfold Sm at *; rw[aCr]; exact h
theorem aDG {k:Int} {op:List UInt8} {nt ds:Bool} {args:List Xp} (hk:0≤k∧k≤100) (ho:Sm op) (hn:args.length≤1000000) (ha:Fvs args):Fv (.mk k op nul [] [] 0 nt ds args):=by
 simp only[Fv];exact⟨⟨⟨by omega,by omega⟩,aAC,aAm _ (by decide)⟩,⟨ho,aAO,aAO⟩,hn,ha⟩
theorem aJg {l:List Tok} {i:Nat} {k:Int} : ∀ {ops:List (List UInt8)} {op:List UInt8},oneP l k i ops=some op→op∈ops
 | [],op,h=>by cases h
 | s::r,op,h=>by
  unfold oneP at h;split at h
  · injection h with h; subst h; exact List.mem_cons_self ..
  · exact List.mem_cons_of_mem _ (aJg h)
theorem aTI (n:Int):I64 (aLX n):=by
 unfold aLX;rw[i64_left];unfold wrap64 I64;omega
section
variable {l:List Tok}
def Ok {α:Type} (Q:α→Prop) (r:Nat→PR α):Prop:=∀ i e j,r i = .ok e j→Q e
theorem aJB {part:Nat→PR Xp} {k:Int} {ops:List (List UInt8)} (h:Ok Fv part) (ho : ∀ s∈ops,Sm s) : ∀ n e i e' j,Fv e→aDB l part k ops n e i = .ok e' j→Fv e'
 | 0,e,i,e',j,_,hr=>by cases hr
 | n+1,e,i,e',j,he,hr=>by
  unfold aDB at hr;split at hr
  · injection hr with h1 h2;subst h1;exact he
  · rename_i op hop;obtain⟨b,m,hb,hr⟩:=aAj hr;exact aJB h ho n _ _ _ _ (aDG (by omega) (ho _ (aJg hop)) (by simp) (aIH he (h _ _ _ hb))) hr
theorem aE7 {part:Nat→PR Xp} {k:Int} {ops:List (List UInt8)} (h:Ok Fv part) (ho : ∀ s∈ops,Sm s):Ok Fv (aBt l part k ops):=by
 intro i e j hr;obtain⟨b,m,hb,hr⟩:=aAj hr;exact aJB h ho _ _ _ _ _ (h _ _ _ hb) hr
theorem aNs {ex:Nat→PR Xp} (h:Ok Fv ex) : ∀ n L i M j,Fvs L→aE9 l ex n L i = .ok M j→Fvs M
 | 0,L,i,M,j,_,hr=>by cases hr
 | n+1,L,i,M,j,hL,hr=>by
  unfold aE9 at hr;split at hr
  · obtain⟨b,m,hb,hr⟩:=aAj hr;exact aNs h n _ _ _ _ (hL.app (aCR (h _ _ _ hb))) hr
  · obtain⟨b,m,hb,hr⟩:=aAj hr;injection hr with h2 h3;subst h2;exact hL
theorem aQd {ex:Nat→PR Xp} (h:Ok Fv ex):Ok Fvs (aCw l ex):=by
 intro i e j hr;obtain⟨b,m,hb,hr⟩:=aAj hr;exact aNs h _ _ _ _ _ (aCR (h _ _ _ hb)) hr
variable (hbig:l.length≤100000)
include hbig
theorem aT3 {ex:Nat→PR Xp} (h:Ok Fv ex) {op:List UInt8} (ho:Sm op):Ok Fv (aFA l ex op):=by
 intro i e j hr;unfold aFA at hr;split at hr
 · split at hr
   · obtain⟨b,m,hb,hr⟩:=aAj hr;injection hr with h2 h3;subst h2;exact aDG (by omega) ho (by simp) trivial
   · obtain⟨b,m,hb,hr⟩:=aAj hr;obtain⟨c,q,hc,hr⟩:=aAj hr;injection hr with h3 h4;subst h3;exact aDG (by omega) ho (by simp) (aCR (h _ _ _ hb))
 · split at hr
   · injection hr with h2 h3;subst h2;exact aDG (by omega) ho (by simp) trivial
   · obtain⟨b,m,hb,hr⟩:=aAj hr;injection hr with h3 h4;subst h3
     have:=aHH hb
     exact aDG (by omega) ho (by omega) (aQd h _ _ _ hb)
variable (htx : ∀ i,Sm (l.getD i default).tx) (hvl : ∀ i,Vs (l.getD i default).vl)
include htx
theorem aRc {ex:Nat→PR Xp} (h:Ok Fv ex) {s:List UInt8} (hs:Sm s):Ok Fv (aCZ l ex s):=by
 intro i e j hr;unfold aCZ at hr;split at hr
 · split at hr
   · injection hr with h2 h3;subst h2;simp only[Fv];exact⟨⟨⟨by omega,by omega⟩,aAC,aAm _ (by decide)⟩,⟨aAO,hs,htx _⟩,by simp,trivial⟩
   · cases hr
 · split at hr
   · exact aT3 hbig h (aLR hs) _ _ _ hr
   · injection hr with h2 h3;subst h2;simp only[Fv];exact⟨⟨⟨by omega,by omega⟩,aAC,aAm _ (by decide)⟩,⟨aAO,aAO,hs⟩,by simp,trivial⟩
omit htx hbig in
theorem aGO {ex:Nat→PR Xp} (h:Ok Fv ex) {ds:Bool} : ∀ n L i e j,Fvs L→L.length+2*n≤900000→aCa l ex ds n L i = .ok e j→Fv e
 | 0,L,i,M,j,_,_,hr=>by cases hr
 | n+1,L,i,M,j,hL,hn,hr=>by
  rw[aC8] at hr;obtain⟨b,m,hb,hr⟩:=aAj hr;obtain⟨c,q,hc,hr⟩:=aAj hr;obtain⟨d,r,hd,hr⟩:=aAj hr;have h2:Fvs (L++([b]++[d])):=hL.app ((aCR (h _ _ _ hb)).app (aCR (h _ _ _ hd)))
  have h3:(L++([b]++[d])).length=L.length+2:=by simp
  split at hr
  · exact aGO h n _ _ _ _ h2 (by omega) hr
  · unfold aHS at hr;obtain⟨f,t,hf,hr⟩:=aAj hr;obtain⟨g,u,hg,hr⟩:=aAj hr;injection hr with h4 h5;subst h4;split at hf
    · obtain⟨x,y,hx,hf⟩:=aAj hf;injection hf with h6 h7;subst h6;exact aDG (by omega) aAO (by rw[List.length_append,h3]; simp only[List.length_cons,List.length_nil]; omega) (h2.app (aCR (h _ _ _ hx)))
    · injection hf with h6 h7;subst h6;exact aDG (by omega) aAO (by omega) h2
omit htx in
theorem aRz {ex:Nat→PR Xp} (h:Ok Fv ex):Ok Fv (aC6 l ex):=by
 intro i e j hr;unfold aC6 at hr;obtain⟨b,m,hb,hr⟩:=aAj hr;obtain⟨c,q,hc,hr⟩:=aAj hr;split at hb
 · injection hb with h5 h6;subst h5;exact aGO h _ [] _ _ _ trivial (by simp only[List.length_nil]; omega) hr
 · obtain⟨d,r,hd,hb⟩:=aAj hb;injection hb with h5 h6;subst h5;exact aGO h _ _ _ _ _ (aCR (h _ _ _ hd)) (by simp only[List.length_cons,List.length_nil]; omega) hr
omit hbig in
theorem aUi {ex:Nat→PR Xp} (h:Ok Fv ex):Ok Fv (aFr l ex):=by
 intro i e j hr;unfold aFr at hr;obtain⟨b,m,hb,hr⟩:=aAj hr;obtain⟨c,q,hc,hr⟩:=aAj hr;obtain⟨d,r,hd,hr⟩:=aAj hr;split at hr
 · obtain⟨f,t,hf,hr⟩:=aAj hr;injection hr with h5 h6;subst h5;exact aDG (by omega) (aLR (htx _)) (by simp) (aCR (h _ _ _ hc))
 · cases hr
include hvl
theorem aRH {ex:Nat→PR Xp} (h:Ok Fv ex):Ok Fv (aEn l ex):=by
 intro i e j hr;unfold aEn at hr;split at hr
 · injection hr with h5 h6;subst h5;simp only[Fv];exact⟨⟨⟨by omega,by omega⟩,hvl _,aAm _ (by decide)⟩,⟨aAO,aAO,aAO⟩,by simp,trivial⟩
 · split at hr
   · exact aRc hbig htx h (htx _) _ _ _ hr
   · split at hr
     · injection hr with h5 h6;subst h5;exact aDG (by omega) aAO (by simp) trivial
     · split at hr
       · exact aRz hbig h _ _ _ hr
       · split at hr
         · exact aUi htx h _ _ _ hr
         · split at hr
           · obtain⟨b,m,hb,hr⟩:=aAj hr;obtain⟨c,q,hc,hr⟩:=aAj hr;injection hr with h5 h6;subst h5;exact h _ _ _ hb
           · cases hr
omit hbig htx in
theorem aTK {sg pl:Nat→PR Xp} (h:Ok Fv sg) (h2:Ok Fv pl):Ok Fv (aHL l sg pl):=by
 intro i e j hr;unfold aHL at hr;split at hr
 · exact h2 _ _ _ hr
 · rename_i op ho;split at hr
   · injection hr with h5 h6;subst h5;simp only[Fv]
     have:=hvl (i+1)
     exact⟨⟨⟨by omega,by omega⟩,⟨this.1,aTI _,this.2.2⟩,aAm _ (by decide)⟩,⟨aAO,aAO,aAO⟩,by simp,trivial⟩
   · obtain⟨b,m,hb,hr⟩:=aAj hr;injection hr with h5 h6;subst h5
     have hs:Sm op:=by
      have:=aJg ho
      simp only[List.mem_cons,List.not_mem_nil,or_false] at this;rcases this with rfl | rfl <;> decide
     exact aDG (by omega) hs (by simp) (aCR (h _ _ _ hb))
omit htx hvl in
theorem aT8 {sm ex:Nat→PR Xp} (h:Ok Fv sm) (he:Ok Fv ex):Ok Fv (aLt l sm ex):=by
 intro i e j hr;rw[aGq] at hr;obtain⟨b,m,hb,hr⟩:=aAj hr;have h1:=h _ _ _ hb
 cases ho:oneP l 4 m [[61],[60,62],[60],[60,61],[62],[62,61]] with
 | some op =>
  rw[aEd ho] at hr;obtain⟨c,q,hc,hr⟩:=aAj hr;injection hr with h5 h6;subst h5
  have hs:Sm op:=by
   have:=aJg ho
   simp only[List.mem_cons,List.not_mem_nil,or_false] at this;rcases this with rfl | rfl | rfl | rfl | rfl | rfl <;> decide
  exact aDG (by omega) hs (by simp) (aIH h1 (h _ _ _ hc))
 | none =>
  cases h0:isP l m 2 [105,115] with
  | true =>
   rw[aGs ho h0] at hr;obtain⟨c,q,hc,hr⟩:=aAj hr;injection hr with h5 h6;subst h5;exact aDG (by omega) aAO (by simp) (aIH h1 (h _ _ _ hc))
  | false =>
   rw[aE2 ho h0] at hr;generalize nx m (aBJ l m)=q at hr;generalize aBJ l m=nt at hr;unfold aFn at hr;split at hr
   · obtain⟨c,r,hc,hr⟩:=aAj hr;obtain⟨d,t,hd,hr⟩:=aAj hr;injection hr with h6 h7;subst h6
     have:=aHH hd
     exact aDG (by omega) aAO (by rw[List.length_cons]; omega) ⟨h1,aQd he _ _ _ hd⟩
   · split at hr
     · obtain⟨c,r,hc,hr⟩:=aAj hr;obtain⟨d,t,hd,hr⟩:=aAj hr;obtain⟨f,u,hf,hr⟩:=aAj hr;injection hr with h7 h8;subst h7;exact aDG (by omega) aAO (by simp) ⟨h1,h _ _ _ hc,h _ _ _ hf,trivial⟩
     · split at hr
       · obtain⟨c,r,hc,hr⟩:=aAj hr;injection hr with h7 h8;subst h7;exact aDG (by omega) aAO (by simp) (aIH h1 (h _ _ _ hc))
       · injection hr with h7 h8;subst h7;exact h1
omit hbig htx hvl in
theorem aUK {ng cm:Nat→PR Xp} (h:Ok Fv ng) (h2:Ok Fv cm):Ok Fv (fun i=>if isP l i 2 [110,111,116]=true then (ng (i+1)).bind fun e j=>.ok (.mk 3 [110,111,116] nul [] [] 0 false false [e]) j else cm i):=by
 intro i e j hr;simp only at hr;split at hr
 · obtain⟨b,m,hb,hr⟩:=aAj hr;injection hr with h5 h6;subst h5;exact aDG (by omega) (by decide) (by simp) (aCR (h _ _ _ hb))
 · exact h2 _ _ _ hr
theorem aO6 : ∀ n sy,Ok Fv (runP l n sy)
 | 0,sy=>fun i e j h=>by cases h
 | n+1,sy=>by
  have ih:=aO6 n;cases sy
  · exact aE7 (ih .conj) (by decide)
  · exact aE7 (ih .neg) (by decide)
  · exact aUK (ih .neg) (ih .comp)
  · exact aT8 hbig (ih .sum) (ih .expr)
  · exact aE7 (ih .prod) (by decide)
  · exact aE7 (ih .join) (by decide)
  · exact aE7 (ih .sgn) (by decide)
  · exact aTK hvl (ih .sgn) (ih .plain)
  · exact aRH hbig htx hvl (ih .expr)
end
mutual
def aFc:Xp→Int
 | .mk k op v tb nm sl nt ds args=>wrap64 (aF9 0 args+1)
def aF9 (m:Int):List Xp→Int
 | []=>m
 | e::r=>aF9 (if m<aFc e then aFc e else m) r
end
theorem aLh (args:List Xp) : ∀ (i:Nat) (m:Int) (h:i<args.length),aF9 m (args.drop i)=aF9 (if m<aFc args[i] then aFc args[i] else m) (args.drop (i+1)):=by
 intro i m h;rw[List.drop_eq_getElem_cons h,aF9]
theorem aUh (k:Int) (op:List UInt8) (v:V3) (tb nm:List UInt8) (sl:Int) (nt ds:Bool) (args:List Xp) (hn:args.length≤1000000) (H : ∀ i (h:i<args.length),FnC Tryz.prog 4 [xD args[i]] (iD (aFc args[i]))) :
 FnC Tryz.prog 4 [xD (.mk k op v tb nm sl nt ds args)] (iD (aFc (.mk k op v tb nm sl nt ds args))):=by
 unfold xD;simp only[Xp.cells];refine w4 k (bs op) v.1 v.2.1 (bs v.2.2) (bs tb) (bs nm) sl nt ds (xcs args) ?_;rw[aAW];refine⟨fun m i n=>∃ K:Nat,i=K∧K≤args.length∧n=args.length - K∧aF9 m (args.drop K)=aF9 0 args,⟨_,0,rfl,by omega,rfl,rfl⟩,?_⟩;rintro n m i ⟨K,rfl,hK,rfl,hd⟩;refine⟨fun h=>?_,fun h=>?_⟩
 · have hlt:K<args.length:=by omega
   rw[xs_D _ (K:Int) (by omega) (by omega)];refine⟨⟨by omega,by omega⟩,aA2 _,xs_k _ _ (by omega) (by omega),aFc args[K],H K hlt,args.length - (K+1),by omega,K+1,?_,by omega,rfl,?_⟩
   · rw[i64_in _ (by omega)]; omega
   · rw[←hd,aLh args K m hlt];by_cases h2:m<aFc args[K]
     · simp[h2]
     · simp[h2]
 · have:K=args.length:=by omega
   subst this;rw[List.drop_length] at hd;simp only[aF9] at hd;rw[aFc,←hd]
   have:IntKind.wrap .i64 (m+1)=wrap64 (m+1):=i64_left _
   rw[this]
mutual
theorem aQw : ∀ e:Xp,Fv e→FnC Tryz.prog 4 [xD e] (iD (aFc e))
 | .mk k op v tb nm sl nt ds args,h=>by
  simp only[Fv] at h;exact aUh k op v tb nm sl nt ds args h.2.2.1 (aPv args h.2.2.2)
theorem aPv : ∀ l:List Xp,Fvs l→∀ i (h:i<l.length),FnC Tryz.prog 4 [xD l[i]] (iD (aFc l[i]))
 | [],_,i,h=>by simp at h
 | e::l,hf,0,h=>by
  simp only[Fvs] at hf;exact aQw e hf.1
 | e::l,hf,i+1,h=>by
  simp only[Fvs] at hf;exact aPv l hf.2 i (by simpa using h)
end
end
end Go.Proofs.YtcdeimjlgpfjiaaGreatDoor
