/- What is scanned is not large. Condition: a text of at most 1100000 bytes. -/
import Derived.Test.YtcdeimjlgpfjiaaGreatDoorG26
set_option linter.unusedSimpArgs false
set_option linter.unusedVariables false
namespace Go.Proofs.YtcdeimjlgpfjiaaGreatDoor
section
open Go.RowKit Go.IntWalk
theorem aFq : ∀ (n:Nat) (s u:List UInt8),s.length≤n→aAW s=some u→u.length≤s.length
 | _,[],u,_,h=>by
  injection h with h;subst h
  simp
 | _,[c],u,_,h=>by
  rw[aAW] at h;split at h
  · cases h
  · injection h with h;subst h
    simp
 | 0,_::_::_,u,hn,_=>by simp at hn
 | n+1,c::d::r,u,hn,h=>by
  rw[aAW] at h;simp only[List.length_cons] at hn ⊢;split at h
  · split at h
    · cases hr:aAW r with
      | none=>rw[hr] at h; cases h
      | some t =>
       rw[hr] at h;injection h with h;subst h
       have:=aFq n r t (by omega) hr
       simp only[List.length_cons];omega
    · cases h
  · cases hr:aAW (d::r) with
    | none=>rw[hr] at h; cases h
    | some t =>
     rw[hr] at h;injection h with h;subst h
     have:=aFq n (d::r) t (by simp only[List.length_cons]; omega) hr
     simp only[List.length_cons] at this ⊢;omega
theorem aJQ : ∀ (n:Nat) (s u:List UInt8),s.length≤n→aBL s=some u→u.length≤s.length
 | _,[],u,_,h=>by
  injection h with h;subst h
  simp
 | _,[_],u,_,h=>by cases h
 | 0,_::_::_,u,hn,_=>by simp at hn
 | n+1,c::d::r,u,hn,h=>by
  rw[aBL] at h;simp only[List.length_cons] at hn ⊢;split at h
  · cases hr:aBL r with
    | none=>rw[hr] at h; cases h
    | some t =>
     rw[hr] at h;injection h with h;subst h
     have:=aJQ n r t (by omega) hr
     simp only[List.length_cons];omega
  · cases h
theorem aPk {k:Int} (hk:I64 k) {o:Option (List UInt8)} (ho : ∀ t,o=some t→Sm t):Vs (aHP k o).1:=by
 unfold aHP
 cases o with
 | none=>exact aAB
 | some t =>
  simp only;split
  · exact aAB
  · exact⟨hk,aAm 0 (by decide),ho t rfl⟩
theorem aNG {s:List UInt8} (hs:Sm s):Vs (aBs s).1:=by
 unfold aBs;split
 · exact aAB
 · split
   · rename_i m hm;have h1:=aEd hs hm;refine aPk (aAm _ (by decide)) fun t ht=>?_
     have:=aFq _ m t (Nat.le_refl _) ht
     unfold Sm at *;omega
   · split
     · refine aPk (aAm _ (by decide)) fun t ht=>?_
       cases hi:aBS (s.drop 1) with
       | none=>rw[hi] at ht; cases ht
       | some m =>
        rw[hi] at ht
        have hs':Sm (s.drop 1):=by unfold Sm at *; rw[List.length_drop]; omega
        have h1:=aEd hs' hi
        have:=aJQ _ m t (Nat.le_refl _) ht
        unfold Sm at *;omega
     · split
       · exact aAB
       · exact⟨aAm 1 (by decide),aD5 _,aAP⟩
def aHO (t:Tok):Prop:=Sm t.tx∧Vs t.vl
theorem aGO (e:Int):aHO (badT e).1:=⟨aAP,aAB⟩
theorem aM1 {s:List UInt8} (hs:Sm s) (i e:Nat):aHO (aDn s i e).1:=by
 unfold aDn;split
 · exact⟨aCQ hs i e,aNG (aCQ hs i e)⟩
 · exact aGO _
theorem aSj {s:List UInt8} (hs:Sm s) (i:Nat):aHO (aC0 s i).1:=by
 unfold aC0;split
 · split
   · split
     · exact aGO _
     · exact aM1 hs _ _
   · split
     · exact⟨aLf (aCQ hs _ _),aAB⟩
     · split
       · exact aGO _
       · exact⟨aCQ hs _ _,aAB⟩
 · split
   · split
     · exact aGO _
     · split
       · exact⟨aCQ hs _ _,aAm 1 (by decide),aD5 _,aAP⟩
       · exact aGO _
   · split
     · split
       · exact aM1 hs _ _
       · exact aGO _
     · split
       · exact⟨aCQ hs _ _,aAB⟩
       · exact aGO _
theorem aMS {s:List UInt8} (hs:Sm s) : ∀ (n:Nat) (l:List Tok) (i:Nat),l.length≤4096→(∀ t∈l,aHO t)→(aGd s n l i).1.length≤4097∧∀ t∈(aGd s n l i).1,aHO t
 | 0,l,i,_,_=>⟨by simp[aGd],by simp[aGd]⟩
 | n+1,l,i,hl,ht=>by
  unfold aGd;split
  · refine⟨by simp only[List.length_append,List.length_cons,List.length_nil]; omega,fun t h=>?_⟩;rcases List.mem_append.1 h with h | h
    · exact ht t h
    · simp only[List.mem_cons,List.not_mem_nil,or_false] at h;subst h;exact⟨aAP,aAB⟩
  · split
    · exact⟨by simp,by simp⟩
    · split
      · refine aMS hs n _ _ (by simp only[List.length_append,List.length_cons,List.length_nil]; omega) fun t h=>?_;rcases List.mem_append.1 h with h | h
        · exact ht t h
        · simp only[List.mem_cons,List.not_mem_nil,or_false] at h;subst h;exact aSj hs i
      · exact⟨by simp,by simp⟩
theorem aL7 {s:List UInt8} (hs:Sm s):(aBa s).1.length≤4097∧∀ t∈(aBa s).1,aHO t:=by
 unfold aBa;split
 · exact⟨by simp,by simp⟩
 · exact aMS hs _ _ _ (by simp) (by simp)
theorem aJh {l:List Tok} (h : ∀ t∈l,aHO t) (i:Nat):aHO (l.getD i default):=by
 by_cases hi:i<l.length
 · rw[List.getD_eq_getElem?_getD,List.getElem?_eq_getElem hi];exact h _ (List.getElem_mem _)
 · rw[List.getD_eq_getElem?_getD,List.getElem?_eq_none (by omega)];exact⟨aAP,aAB⟩
end
end Go.Proofs.YtcdeimjlgpfjiaaGreatDoor
