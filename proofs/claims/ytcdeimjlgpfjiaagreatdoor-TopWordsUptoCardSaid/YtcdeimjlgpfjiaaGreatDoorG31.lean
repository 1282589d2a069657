/- What is scanned is not large. Condition: a text of at most 1100000 bytes. -/
import Derived.Test.YtcdeimjlgpfjiaaGreatDoorG26
set_option linter.unusedSimpArgs false
set_option linter.unusedVariables false
namespace Go.Proofs.YtcdeimjlgpfjiaaGreatDoor
section
open Go.RowKit Go.IntWalk
theorem aFP : ∀ (n:Nat) (s u:List UInt8),s.length≤n→aAV s=some u→u.length≤s.length
 | _,[],u,_,h=>by
  injection h with h;subst h
  simp
 | _,[c],u,_,h=>by
  rw[aAV] at h;split at h
  · cases h
  · injection h with h;subst h
    simp
 | 0,_::_::_,u,hn,_=>by simp at hn
 | n+1,c::d::r,u,hn,h=>by
  rw[aAV] at h;simp only[List.length_cons] at hn ⊢;split at h
  · split at h
    · cases hr:aAV r with
      | none=>rw[hr] at h; cases h
      | some t =>
       rw[hr] at h;injection h with h;subst h
       have:=aFP n r t (by omega) hr
       simp only[List.length_cons];omega
    · cases h
  · cases hr:aAV (d::r) with
    | none=>rw[hr] at h; cases h
    | some t =>
     rw[hr] at h;injection h with h;subst h
     have:=aFP n (d::r) t (by simp only[List.length_cons]; omega) hr
     simp only[List.length_cons] at this ⊢;omega
theorem aJ2 : ∀ (n:Nat) (s u:List UInt8),s.length≤n→aBL s=some u→u.length≤s.length
 | _,[],u,_,h=>by
  injection h with h;subst h
  simp
 | _,[_],u,_,h=>by cases h
 | 0,_::_::_,u,hn,_=>by simp at hn
 | n+1,c::d::r,u,hn,h=>by
  rw[aBL] at h;simp only[List.length_cons] at hn ⊢;split at h
  · cases hr:aBL r with
    | none=>rw[hr] at h; cases h
    | some t =>
     rw[hr] at h;injection h with h;subst h
     have:=aJ2 n r t (by omega) hr
     simp only[List.length_cons];omega
  · cases h
theorem aOt {k:Int} (hk:I64 k) {o:Option (List UInt8)} (ho : ∀ t,o=some t→Sm t):Vs (aHP k o).1:=by
 unfold aHP
 cases o with
 | none=>exact aAC
 | some t =>
  simp only;split
  · exact aAC
  · exact⟨hk,aAm 0 (by decide),ho t rfl⟩
theorem aNJ {s:List UInt8} (hs:Sm s):Vs (aBr s).1:=by
 unfold aBr;split
 · exact aAC
 · split
   · rename_i m hm;have h1:=aEf hs hm;refine aOt (aAm _ (by decide)) fun t ht=>?_
     have:=aFP _ m t (Nat.le_refl _) ht
     unfold Sm at *;omega
   · split
     · refine aOt (aAm _ (by decide)) fun t ht=>?_
       cases hi:aBM (s.drop 1) with
       | none=>rw[hi] at ht; cases ht
       | some m =>
        rw[hi] at ht
        have hs':Sm (s.drop 1):=by unfold Sm at *; rw[List.length_drop]; omega
        have h1:=aEf hs' hi
        have:=aJ2 _ m t (Nat.le_refl _) ht
        unfold Sm at *;omega
     · split
       · exact aAC
       · exact⟨aAm 1 (by decide),aD6 _,aAO⟩
def aHJ (t:Tok):Prop:=Sm t.tx∧Vs t.vl
theorem aG8 (e:Int):aHJ (badT e).1:=⟨aAO,aAC⟩
theorem aMW {s:List UInt8} (hs:Sm s) (i e:Nat):aHJ (aDp s i e).1:=by
 unfold aDp;split
 · exact⟨aCP hs i e,aNJ (aCP hs i e)⟩
 · exact aG8 _
theorem aR1 {s:List UInt8} (hs:Sm s) (i:Nat):aHJ (aC1 s i).1:=by
 unfold aC1;split
 · split
   · split
     · exact aG8 _
     · exact aMW hs _ _
   · split
     · exact⟨aLR (aCP hs _ _),aAC⟩
     · split
       · exact aG8 _
       · exact⟨aCP hs _ _,aAC⟩
 · split
   · split
     · exact aG8 _
     · split
       · exact⟨aCP hs _ _,aAm 1 (by decide),aD6 _,aAO⟩
       · exact aG8 _
   · split
     · split
       · exact aMW hs _ _
       · exact aG8 _
     · split
       · exact⟨aCP hs _ _,aAC⟩
       · exact aG8 _
theorem aMP {s:List UInt8} (hs:Sm s) : ∀ (n:Nat) (l:List Tok) (i:Nat),l.length≤4096→(∀ t∈l,aHJ t)→(aGg s n l i).1.length≤4097∧∀ t∈(aGg s n l i).1,aHJ t
 | 0,l,i,_,_=>⟨by simp[aGg],by simp[aGg]⟩
 | n+1,l,i,hl,ht=>by
  unfold aGg;split
  · refine⟨by simp only[List.length_append,List.length_cons,List.length_nil]; omega,fun t h=>?_⟩;rcases List.mem_append.1 h with h | h
    · exact ht t h
    · simp only[List.mem_cons,List.not_mem_nil,or_false] at h;subst h;exact⟨aAO,aAC⟩
  · split
    · exact⟨by simp,by simp⟩
    · split
      · refine aMP hs n _ _ (by simp only[List.length_append,List.length_cons,List.length_nil]; omega) fun t h=>?_;rcases List.mem_append.1 h with h | h
        · exact ht t h
        · simp only[List.mem_cons,List.not_mem_nil,or_false] at h;subst h;exact aR1 hs i
      · exact⟨by simp,by simp⟩
theorem aNe {s:List UInt8} (hs:Sm s):(aBa s).1.length≤4097∧∀ t∈(aBa s).1,aHJ t:=by
 unfold aBa;split
 · exact⟨by simp,by simp⟩
 · exact aMP hs _ _ _ (by simp) (by simp)
theorem aII {l:List Tok} (h : ∀ t∈l,aHJ t) (i:Nat):aHJ (l.getD i default):=by
 by_cases hi:i<l.length
 · rw[List.getD_eq_getElem?_getD,List.getElem?_eq_getElem hi];exact h _ (List.getElem_mem _)
 · rw[List.getD_eq_getElem?_getD,List.getElem?_eq_none (by omega)];exact⟨aAO,aAC⟩
end
end Go.Proofs.YtcdeimjlgpfjiaaGreatDoor
