/- What functions of this seat compute, by values: contracts (lemmas of the statement's proof, under the conditions that each names). -/
import Derived.Test.YtppljhpecoeakaaQA
import Derived.Test.YtppljhpecoeakaaQC
set_option maxRecDepth 10000
set_option maxHeartbeats 4000000
set_option linter.unusedVariables false
set_option linter.unusedSimpArgs false
namespace Sim
open Go Go.Proofs
attribute [local congr] An Ao Al AC Aq Ap Av
def lnP (hn:Int) (l:List Int):Bool := !decide ((l.length:Int)=hn)
noncomputable def M4:(Int)×(List Lnk)×(List Snd)×(Dem)×(List Int)→List PV:=fun (hn,ls,us,d,l) => [ints l,.vptr [I hn,Az ls,AB us,I d.1,I d.2.1,I d.2.2.1,I d.2.2.2.1,I d.2.2.2.2] 0]
noncomputable def nD:(Int)×(List Lnk)×(List Snd)×(Dem)×(List Int)→PV:=fun (hn,ls,us,d,l)=>B (lnP hn l)
def nE:(Int)×(List Lnk)×(List Snd)×(Dem)×(List Int)→Prop:=fun (hn,ls,us,d,l)=>True
noncomputable def e_bnd1:Nat×Ent:=(33,.v (Ah M4 nD nE))
theorem Adk:∀i j,M4 i=M4 j→i=j:=by
 rintro ⟨hn₁,ls₁,us₁,d₁,l₁⟩ ⟨hn₂,ls₂,us₂,d₂,l₂⟩ h
 simp only[M4,List.cons.injEq,and_true,PV.lits.injEq,PV.int.injEq,PV.vptr.injEq,true_and,DQ,AU,AG]at h
 simp [Prod.ext_iff,h] <;> omega
theorem nF (hn:Int) (ls:List Lnk) (us:List Snd) (d:Dem) (l:List Int):Ah M4 nD nE [ints l,.vptr [I hn,Az ls,AB us,I d.1,I d.2.1,I d.2.2.1,I d.2.2.2.1,I d.2.2.2.2] 0]=some (B (lnP hn l)):=Ay Adk (i:=(hn,ls,us,d,l)) trivial
def nG:Prop:=∀(hn:Int) (ls:List Lnk) (us:List Snd) (d:Dem) (l:List Int) ,VC Try.prog 33 [ints l,.vptr [I hn,Az ls,AB us,I d.1,I d.2.1,I d.2.2.1,I d.2.2.2.1,I d.2.2.2.2] 0] (B (lnP hn l))
def nH:Prop:=AN Try.prog e_bnd1.1 e_bnd1.2
theorem Adl (c:nG):nH:=At fun⟨hn,ls,us,d,l⟩ h=>c hn ls us d l
theorem Adm:nG:=by
 intro hn ls us d l
 refine A5 AR (l := []) (As) [] []  Try.func33 rfl (by decide +kernel) (N:=10) rfl (by simp) rfl (by kernel_rfl) fun hs=>?_
 simp only[AI,PV.small,List.length_map,and_true,true_and]at hs
 unfold lnP
 by_cases h:(l.length:Int)=hn
 ·simp +contextual (maxSteps:=4000000) only[↓bdD,bdP,Nat.reduceLT,Nat.reduceBEq,Ag,Nat.reduceAdd,st0,↓reduceIte,Try.f33,ty3,Au,Bl,AX,h]
 ·simp +contextual (maxSteps:=4000000) only[↓bdD,bdP,Nat.reduceLT,Nat.reduceBEq,Ag,Nat.reduceAdd,st0,↓reduceIte,Try.f33,ty3,Au,Bl,AX,h]
theorem Adn:nH:=Adl Adm
def Im (hn:Int) (y:List (List Int)):Int:=if y.findIdx (lnP hn)<y.length then (y.findIdx (lnP hn):Int)else -1
theorem xZ {hn:Int} {y:List (List Int)} {k:Nat} (hk:k<y.length) (h:lnP hn (y.getD k [])=true) (g:∀j,j<k→lnP hn (y.getD j [])=false):Im hn y=k:=by
 have e:y.findIdx (lnP hn)=k:=by
  rw [List.findIdx_eq hk]
  refine ⟨?_,fun j hj=>?_⟩
  ·have : y.getD k []=y[k]:=by simp[hk]
   rw [←this];exact h
  ·have hjl:j<y.length:=by omega
   have : y.getD j []=y[j]:=by simp[hjl]
   rw [←this];exact g j hj
 unfold Im
 rw [e,if_pos hk]
theorem nI {hn:Int} {y:List (List Int)} (g:∀j,j<y.length→lnP hn (y.getD j [])=false):Im hn y = -1:=by
 have e:y.findIdx (lnP hn)=y.length:=by
  rw [List.findIdx_eq_length]
  intro x hx
  obtain ⟨j,hj,rfl⟩:=List.getElem_of_mem hx
  have : y.getD j []=y[j]:=by simp[hj]
  rw [←this];exact g j hj
 unfold Im
 rw [e,if_neg (by omega)]
noncomputable def M7:(Int)×(List Lnk)×(List Snd)×(Dem)×(List (List Int))→List PV:=fun (hn,ls,us,d,y) => [Ff y,.func (.func 33) [] [.vptr [I hn,Az ls,AB us,I d.1,I d.2.1,I d.2.2.1,I d.2.2.2.1,I d.2.2.2.2] 0]]
noncomputable def nJ:(Int)×(List Lnk)×(List Snd)×(Dem)×(List (List Int))→PV:=fun (hn,ls,us,d,y)=>I (Im hn y)
def nK:(Int)×(List Lnk)×(List Snd)×(Dem)×(List (List Int))→Prop:=fun (hn,ls,us,d,y)=>True
noncomputable def e_idxR:Nat×Ent:=(52,.v (Ah M7 nJ nK))
theorem Ado:∀i j,M7 i=M7 j→i=j:=by
 rintro ⟨hn₁,ls₁,us₁,d₁,y₁⟩ ⟨hn₂,ls₂,us₂,d₂,y₂⟩ h
 simp only[M7,List.cons.injEq,and_true,PV.lits.injEq,PV.int.injEq,PV.func.injEq,PV.vptr.injEq,true_and,AU,AG,J6]at h
 simp [Prod.ext_iff,h] <;> omega
theorem nL (hn:Int) (ls:List Lnk) (us:List Snd) (d:Dem) (y:List (List Int)):Ah M7 nJ nK [Ff y,.func (.func 33) [] [.vptr [I hn,Az ls,AB us,I d.1,I d.2.1,I d.2.2.1,I d.2.2.2.1,I d.2.2.2.2] 0]]=some (I (Im hn y)):=Ay Ado (i:=(hn,ls,us,d,y)) trivial
def nN:Prop:=∀(hn:Int) (ls:List Lnk) (us:List Snd) (d:Dem) (y:List (List Int)) ,VC Try.prog 52 [Ff y,.func (.func 33) [] [.vptr [I hn,Az ls,AB us,I d.1,I d.2.1,I d.2.2.1,I d.2.2.2.1,I d.2.2.2.2] 0]] (I (Im hn y))
def nO:Prop:=AN Try.prog e_idxR.1 e_idxR.2
theorem Adp (c:nN):nO:=At fun⟨hn,ls,us,d,y⟩ h=>c hn ls us d y
theorem Adq:nN:=by
 intro hn ls us d y
 refine A5 AR (l := [e_bnd1]) ((Ae Adn As)) [] []  Try.func52 rfl (by decide +kernel) (N:=19) rfl (by simp) rfl (by kernel_rfl) fun hs=>?_
 simp only[AI,PV.small,List.length_map,and_true]at hs
 have hsl:=hs.1
 generalize hr:Im hn y=r
 simp +contextual (maxSteps:=4000000) only[↓bdD,bdP,Nat.reduceLT,Nat.reduceBEq,Nat.reduceAdd,st0,↓reduceIte,e_bnd1,Try.f52,By]
 refine AA [4,5,8,9,10,11,12,13,14,15,16,17,18] y.length (fun k ρ st'=>ρ 8=I k∧∀j,j<k→lnP hn (y.getD j [])=false) (.refl _) ?_ ?_
 ·simp +contextual (maxSteps:=4000000) only[↓bdD,bdP]
  exact fun j hj=>absurd hj (by omega)
 rintro k ρ ⟨ob,M⟩ hk ⟨h8,hI⟩
 by_cases hlt:k<y.length
 ·have hwk:IntKind.i64.wrap ((k:Int)+1)=((k+1:Nat):Int):=by rw[Aj (by omega) (by omega)];omega
  cases hp:lnP hn (y.getD k [])
  ·simp +contextual (maxSteps:=4000000) only[↓bdD,bdP,Nat.reduceLT,Nat.reduceBEq,Nat.reduceAdd,↓reduceIte,nF,Ac,Ab,C7,By,AX,h8,hlt,hwk,hp]
   intro j hj
   by_cases e:j=k
   ·rw [e];exact hp
   ·exact hI j (by omega)
  ·have := xZ hlt hp hI
   rw [hr]at this
   simp +contextual (maxSteps:=4000000) only[↓bdD,bdP,Nat.reduceLT,Nat.reduceBEq,Ag,Nat.reduceAdd,↓reduceIte,nF,Ac,Ab,C7,By,AX,h8,hlt,hp,this]
 ·have e:k=y.length:=by omega
  subst e
  have := nI hI
  rw [hr]at this
  simp +contextual (maxSteps:=4000000) only[↓bdD,bdP,Nat.reduceLT,Nat.reduceBEq,Ag,↓reduceIte,h8,this]
theorem Adr:nO:=Adp Adq
noncomputable def M8:(Int)×(List Lnk)×(List Snd)×(Dem)×(List (List Int))→List PV:=fun (hn,ls,us,d,y) => [Ff y,.func (.func 33) [] [.vptr [I hn,Az ls,AB us,I d.1,I d.2.1,I d.2.2.1,I d.2.2.2.1,I d.2.2.2.2] 0]]
noncomputable def nP:(Int)×(List Lnk)×(List Snd)×(Dem)×(List (List Int))→PV:=fun (hn,ls,us,d,y)=>B (decide (0≤Im hn y))
def nQ:(Int)×(List Lnk)×(List Snd)×(Dem)×(List (List Int))→Prop:=fun (hn,ls,us,d,y)=>True
noncomputable def e_cntR:Nat×Ent:=(32,.v (Ah M8 nP nQ))
theorem Ads:∀i j,M8 i=M8 j→i=j:=by
 rintro ⟨hn₁,ls₁,us₁,d₁,y₁⟩ ⟨hn₂,ls₂,us₂,d₂,y₂⟩ h
 simp only[M8,List.cons.injEq,and_true,PV.lits.injEq,PV.int.injEq,PV.func.injEq,PV.vptr.injEq,true_and,AU,AG,J6]at h
 simp [Prod.ext_iff,h] <;> omega
theorem nR (hn:Int) (ls:List Lnk) (us:List Snd) (d:Dem) (y:List (List Int)):Ah M8 nP nQ [Ff y,.func (.func 33) [] [.vptr [I hn,Az ls,AB us,I d.1,I d.2.1,I d.2.2.1,I d.2.2.2.1,I d.2.2.2.2] 0]]=some (B (decide (0≤Im hn y))):=Ay Ads (i:=(hn,ls,us,d,y)) trivial
def nS:Prop:=∀(hn:Int) (ls:List Lnk) (us:List Snd) (d:Dem) (y:List (List Int)) ,VC Try.prog 32 [Ff y,.func (.func 33) [] [.vptr [I hn,Az ls,AB us,I d.1,I d.2.1,I d.2.2.1,I d.2.2.2.1,I d.2.2.2.2] 0]] (B (decide (0≤Im hn y)))
def nT:Prop:=AN Try.prog e_cntR.1 e_cntR.2
theorem Adt (c:nS):nT:=At fun⟨hn,ls,us,d,y⟩ h=>c hn ls us d y
theorem Adu:nS:=by
 intro hn ls us d y
 refine A5 AR (l := [e_idxR]) ((Ae Adr As)) [] []  Try.func32 rfl (by decide +kernel) (N:=9) rfl (by simp) rfl (by kernel_rfl) fun hs=>?_
 simp only[AI,PV.small,List.length_map,and_true]at hs
 by_cases h:0≤Im hn y
 ·simp +contextual (maxSteps:=4000000) only[↓bdD,bdP,Nat.reduceLT,Nat.reduceBEq,Ag,Nat.reduceAdd,st0,↓reduceIte,e_idxR,nL,Ac,Ab,Dn,Try.f32,By,uW,h]
 ·simp +contextual (maxSteps:=4000000) only[↓bdD,bdP,Nat.reduceLT,Nat.reduceBEq,Ag,Nat.reduceAdd,st0,↓reduceIte,e_idxR,nL,Ac,Ab,Dn,Try.f32,By,uW,h]
theorem Adv:nT:=Adt Adu
theorem fnd_iff {hn:Int} {y:List (List Int)}:0≤Im hn y↔¬ ∀l∈y,(l.length:Int)=hn:=by
 have key:(∃x∈y,lnP hn x=true)↔¬ ∀l∈y,(l.length:Int)=hn:=by
  constructor
  ·rintro ⟨x,hx,h⟩ g
   have := g x hx
   simp [lnP,this]at h
  ·intro h
   refine Classical.byContradiction fun g=>h fun l hl=>?_
   refine Classical.byContradiction fun c=>g ⟨l,hl,?_⟩
   simp [lnP,c]
 rw [←key,←List.findIdx_lt_length]
 unfold Im
 constructor
 ·intro h
  split at h
  ·assumption
  ·omega
 ·intro h
  rw [if_pos h];omega
def mnT (l:List Int):Nat→Int
 | 0=>l.getD 0 0
 | k+1=>min (mnT l k) (l.getD k 0)
def mxT (l:List Int):Nat→Int
 | 0=>l.getD 0 0
 | k+1=>max (mxT l k) (l.getD k 0)
noncomputable def TA:List Int→List PV:=fun l => [ints l]
noncomputable def zX:List Int→PV:=fun l=>I (mnT l l.length)
def zY:List Int→Prop:=fun l=>l ≠ []
noncomputable def e_mnR:Nat×Ent:=(34,.v (Ah TA zX zY))
theorem Agz:∀i j,TA i=TA j→i=j:=by
 rintro l₁ l₂ h
 simp only[TA,List.cons.injEq,and_true,PV.lits.injEq,true_and,DQ]at h
 first | exact h | omega | (simp[Prod.ext_iff,h];done)
theorem nU (l:List Int):Ah TA zX zY [ints l]=@ite (Option (PV)) (l ≠ []) (Classical.propDecidable _) (some (I (mnT l l.length))) none:=B9 Agz l
def zZ:Prop:=∀(l:List Int) (h:l ≠ []) ,VC Try.prog 34 [ints l] (I (mnT l l.length))
def Aaa:Prop:=AN Try.prog e_mnR.1 e_mnR.2
theorem Ag0 (c:zZ):Aaa:=At fun l h=>c l h
theorem Ag1:zZ:=by
 intro l hne
 refine A5 AR (l := []) (As) [] []  Try.func34 rfl (by decide +kernel) (N:=25) rfl (by simp) rfl (by kernel_rfl) fun hs=>?_
 simp only[AI,PV.small,List.length_map,and_true]at hs
 have hp:0<l.length:=List.length_pos_iff.2 hne
 have hpi:¬(l.length:Int)<1:=by omega
 have hsl:=hs.1
 have h01:mnT l 1=l.getD 0 0:=by show min (l.getD 0 0) (l.getD 0 0)=_;omega
 generalize hr:mnT l l.length=r
 simp +contextual (maxSteps:=4000000) only[↓bdD,bdP,Nat.reduceLT,Nat.reduceBEq,Nat.reduceAdd,Int.reduceToNat,st0,↓reduceIte,Try.f34,ty3,AX,hp,hpi]
 refine AA [3,4,12,13,14,15,16,17,18,19,20,21,22,23] (l.length-1) (fun k ρ st'=>ρ 4=I ((k+1:Nat):Int)∧ρ 3=I (mnT l (k+1))) (.refl _) ?_ ?_
 ·simp +contextual (maxSteps:=4000000) only[↓bdD,bdP,Nat.reduceBEq,h01]
 rintro k ρ ⟨ob,M⟩ hk ⟨h4,h3⟩
 by_cases hlt:k<l.length-1
 ·have hlt2:k+1<l.length:=by omega
  have hwk:IntKind.i64.wrap (((k+1:Nat):Int)+1)=((k+1+1:Nat):Int):=by rw[Aj (by omega) (by omega)];omega
  have hst:mnT l (k+1+1)=min (mnT l (k+1)) (l.getD (k+1) 0):=rfl
  simp +contextual (maxSteps:=4000000) only[↓bdD,bdP,Nat.reduceLT,Nat.reduceBEq,Nat.reduceAdd,↓reduceIte,ty3,AX,h4,h3,hlt2,hwk,hst]
  exact ⟨hlt,by split <;> omega⟩
 ·have e:k+1=l.length:=by omega
  rw [e]at h4 h3
  rw [hr]at h3
  simp +contextual (maxSteps:=4000000) only[↓bdD,bdP,Nat.reduceLT,Nat.reduceBEq,Ag,Nat.reduceAdd,↓reduceIte,AX,h4,h3]
theorem Ag2:Aaa:=Ag0 Ag1
noncomputable def TB:List Int→List PV:=fun l => [ints l]
noncomputable def Aab:List Int→PV:=fun l=>I (mxT l l.length)
def Aac:List Int→Prop:=fun l=>l ≠ []
noncomputable def e_mxR:Nat×Ent:=(35,.v (Ah TB Aab Aac))
theorem Ag3:∀i j,TB i=TB j→i=j:=by
 rintro l₁ l₂ h
 simp only[TB,List.cons.injEq,and_true,PV.lits.injEq,true_and,DQ]at h
 first | exact h | omega | (simp[Prod.ext_iff,h];done)
theorem Aad (l:List Int):Ah TB Aab Aac [ints l]=@ite (Option (PV)) (l ≠ []) (Classical.propDecidable _) (some (I (mxT l l.length))) none:=B9 Ag3 l
def Aae:Prop:=∀(l:List Int) (h:l ≠ []) ,VC Try.prog 35 [ints l] (I (mxT l l.length))
def Aaf:Prop:=AN Try.prog e_mxR.1 e_mxR.2
theorem Ag4 (c:Aae):Aaf:=At fun l h=>c l h
theorem Ag5:Aae:=by
 intro l hne
 refine A5 AR (l := []) (As) [] []  Try.func35 rfl (by decide +kernel) (N:=25) rfl (by simp) rfl (by kernel_rfl) fun hs=>?_
 simp only[AI,PV.small,List.length_map,and_true]at hs
 have hp:0<l.length:=List.length_pos_iff.2 hne
 have hpi:¬(l.length:Int)<1:=by omega
 have hsl:=hs.1
 have h01:mxT l 1=l.getD 0 0:=by show max (l.getD 0 0) (l.getD 0 0)=_;omega
 generalize hr:mxT l l.length=r
 simp +contextual (maxSteps:=4000000) only[↓bdD,bdP,Nat.reduceLT,Nat.reduceBEq,Nat.reduceAdd,Int.reduceToNat,st0,↓reduceIte,Try.f35,ty3,AX,hp,hpi]
 refine AA [3,4,12,13,14,15,16,17,18,19,20,21,22,23] (l.length-1) (fun k ρ st'=>ρ 4=I ((k+1:Nat):Int)∧ρ 3=I (mxT l (k+1))) (.refl _) ?_ ?_
 ·simp +contextual (maxSteps:=4000000) only[↓bdD,bdP,Nat.reduceBEq,h01]
 rintro k ρ ⟨ob,M⟩ hk ⟨h4,h3⟩
 by_cases hlt:k<l.length-1
 ·have hlt2:k+1<l.length:=by omega
  have hwk:IntKind.i64.wrap (((k+1:Nat):Int)+1)=((k+1+1:Nat):Int):=by rw[Aj (by omega) (by omega)];omega
  have hst:mxT l (k+1+1)=max (mxT l (k+1)) (l.getD (k+1) 0):=rfl
  simp +contextual (maxSteps:=4000000) only[↓bdD,bdP,Nat.reduceLT,Nat.reduceBEq,Nat.reduceAdd,↓reduceIte,ty3,AX,h4,h3,hlt2,hwk,hst]
  exact ⟨hlt,by split <;> omega⟩
 ·have e:k+1=l.length:=by omega
  rw [e]at h4 h3
  rw [hr]at h3
  simp +contextual (maxSteps:=4000000) only[↓bdD,bdP,Nat.reduceLT,Nat.reduceBEq,Ag,Nat.reduceAdd,↓reduceIte,AX,h4,h3]
theorem Ag6:Aaf:=Ag4 Ag5
theorem nV {l:List Int} {b:Int}:∀ {k},k≤l.length→(0<k)→(b≤mnT l k↔∀j,j<k→b≤l.getD j 0)
 | 0,_,h=>absurd h (by omega)
 | 1,hk,_=>by
  show b≤min (l.getD 0 0) (l.getD 0 0)↔_
  constructor
  ·intro h j hj
   rw [show j=0 by omega];omega
  ·intro h;have:=h 0 (by omega);omega
 | k+2,hk,_=>by
  have ih:=nV (l:=l) (b:=b) (k:=k+1) (by omega) (by omega)
  show b≤min (mnT l (k+1)) (l.getD (k+1) 0)↔_
  constructor
  ·intro h j hj
   by_cases e:j=k+1
   ·rw [e];omega
   ·exact ih.1 (by omega) j (by omega)
  ·intro h
   have h1:=ih.2 fun j hj=>h j (by omega)
   have h2:=h (k+1) (by omega)
   omega
theorem nW {l:List Int} {b:Int}:∀ {k},k≤l.length→(0<k)→(mxT l k≤b↔∀j,j<k→l.getD j 0≤b)
 | 0,_,h=>absurd h (by omega)
 | 1,hk,_=>by
  show max (l.getD 0 0) (l.getD 0 0)≤b↔_
  constructor
  ·intro h j hj
   rw [show j=0 by omega];omega
  ·intro h;have:=h 0 (by omega);omega
 | k+2,hk,_=>by
  have ih:=nW (l:=l) (b:=b) (k:=k+1) (by omega) (by omega)
  show max (mxT l (k+1)) (l.getD (k+1) 0)≤b↔_
  constructor
  ·intro h j hj
   by_cases e:j=k+1
   ·rw [e];omega
   ·exact ih.1 (by omega) j (by omega)
  ·intro h
   have h1:=ih.2 fun j hj=>h j (by omega)
   have h2:=h (k+1) (by omega)
   omega
end Sim
namespace Sim
open Go Go.Proofs
attribute [local congr] An Ao Al AC Aq Ap Av
abbrev pt (y:List (List Int)) (t k:Nat):Int:=(y.getD t []).getD k 0
def shA (hn:Int) (d:Dem) (y:List (List Int)):Prop:=(y.length:Int)=d.2.2.2.2-d.2.2.2.1+1∧∀l∈y,(l.length:Int)=hn
instance {hn:Int} {d:Dem} {y:List (List Int)}:Decidable (shA hn d y):=inferInstanceAs (Decidable (_∧_))
def shB (hn:Int) (y:List (List Int)):Prop:=∀t,t<y.length→∀k,k<hn.toNat→0≤pt y t k∧pt y t k≤536870912
instance {hn:Int} {y:List (List Int)}:Decidable (shB hn y):=inferInstanceAs (Decidable (∀t,t<y.length→_))
def shC (hn:Int) (y:List (List Int)):Prop:=∀t,t<y.length-1→∀k,k<hn.toNat→pt y (t+1) k≤pt y t k
instance {hn:Int} {y:List (List Int)}:Decidable (shC hn y):=inferInstanceAs (Decidable (∀t,t<y.length-1→_))
def shE (hn:Int) (d:Dem) (y:List (List Int)):Int:=if ¬shA hn d y then 1 else if ¬shB hn y then 3 else if ¬shC hn y then 22 else 0
def GR (hn:Int) (ls:List Lnk) (us:List Snd) (d:Dem) (y:List (List Int)):Int:=if CN hn ls us d≠0 then CN hn ls us d else shE hn d y
def Wc (ls:List Lnk) (us:List Snd) (d:Dem) (y:List (List Int)) (t k:Nat):Int :=
 min d.2.2.1 (lfM ls us (k:Nat) (d.2.2.2.1+(t:Int)))*max 0 (pt y (t+1) (ls.getD k dL).2.1.toNat-pt y t (ls.getD k dL).1.toNat-Fd ls (k:Nat) (d.2.2.2.1+(t:Int)))
def Jb (ls:List Lnk) (us:List Snd) (d:Dem) (y:List (List Int)) (n:Nat):Int :=
 d.2.2.1 * (pt y (Ar d) d.2.1.toNat-pt y 0 d.1.toNat)-Ai (fun i=>Wc ls us d y (i / ls.length) (i % ls.length)) n
def J7 (hn:Int) (ls:List Lnk) (us:List Snd) (d:Dem) (y:List (List Int)):Int:=if GR hn ls us d y≠0 then 0 else Jb ls us d y (Ar d*ls.length)
theorem pck_zero {hn:Int} {ls:List Lnk} {us:List Snd} {d:Dem}:CN hn ls us d=0↔CQ hn ls us d=0∧d.2.2.1≤4194304:=by
 unfold CN
 constructor
 ·intro h
  split at h
  ·contradiction
  ·rename_i c
   split at h
   ·cases h
   ·exact ⟨Classical.not_not.1 c,by omega⟩
 ·rintro ⟨h1,h2⟩
  rw [if_neg (fun g=>g h1),if_neg (by omega)]
theorem QN {ls:List Lnk} {us:List Snd} {r:Int} {k t:Nat}:(EG ls us r k t)[1]?=some (I (r+(t:Int))):=rfl
theorem QO {ls:List Lnk} {us:List Snd} {r:Int} {k t:Nat}:(EG ls us r k t)[2]?=some (I (ls.getD k dL).1):=by simp[EG,lkC]
theorem QP {ls:List Lnk} {us:List Snd} {r:Int} {k t:Nat}:(EG ls us r k t)[3]?=some (I (ls.getD k dL).2.1):=by simp[EG,lkC]
theorem LF {ls:List Lnk} {us:List Snd} {r:Int} {k t:Nat}:(EG ls us r k t)[52]?=some (I (lfM ls us (k:Nat) (r+(t:Int)))):=by
 unfold EG
 rw [List.getElem?_cons_succ,List.getElem?_cons_succ,List.getElem?_append_right (by rw[BO];omega),BO];rfl
theorem Xz {ls:List Lnk} {us:List Snd} {r:Int} {k t:Nat}:(EG ls us r k t)[53]?=some (I (Fd ls (k:Nat) (r+(t:Int)))):=by
 unfold EG
 rw [List.getElem?_cons_succ,List.getElem?_cons_succ,List.getElem?_append_right (by rw[BO];omega),BO];rfl
theorem B6 {ls:List Lnk} {us:List Snd} {r:Int} {k t:Nat}:(EG ls us r k t).length=54:=by simp[EG,BO]
theorem LG {ls:List Lnk} {us:List Snd} {r:Int} {D i:Nat} {y:List PV} (h:(Ja ls us r D)[i]?=some y):i<D*ls.length∧y = [xY ls us r (i % ls.length) (i / ls.length)]:=by
 unfold Ja at h
 rw [List.getElem?_map,Option.map_eq_some_iff]at h
 obtain ⟨x,h1,h2⟩:=h
 obtain ⟨hi,rfl⟩:=List.getElem?_eq_some_iff.1 h1
 rw [List.length_range]at hi
 rw [List.getElem_range]at h2
 exact ⟨hi,h2.symm⟩
theorem J8 {ls:List Lnk} {us:List Snd} {r:Int} {D:Nat}:(Ja ls us r D).length=D*ls.length:=by unfold Ja;rw[List.length_map,List.length_range]
theorem J9 {ls:List Lnk} {us:List Snd} {r:Int} {D:Nat}:∀y∈Ja ls us r D,y.length=1:=fun y hy=>by
 obtain ⟨i,_,rfl⟩:=List.mem_map.1 hy
 rfl
theorem XA {hn:Int} {ls:List Lnk} {us:List Snd} {d:Dem} {y:List (List Int)} (hf:BA hn ls us=0) (hB:shB hn y) (hb:0≤d.2.2.1∧d.2.2.1≤4194304) (hr:0≤d.2.2.2.1) {t k:Nat} (ht:t+1<y.length) (hk:k<ls.length) :
  0 ≤ lfM ls us (k:Nat) (d.2.2.2.1+(t:Int))∧lfM ls us (k:Nat) (d.2.2.2.1+(t:Int))≤1073741824∧0≤Fd ls (k:Nat) (d.2.2.2.1+(t:Int))∧Fd ls (k:Nat) (d.2.2.2.1+(t:Int))≤1000000 ∧
  0 ≤ Wc ls us d y t k∧Wc ls us d y t k≤2251799813685248:=by
 obtain ⟨ok,_⟩:=Cm hf
 have hend:=ok.net.ends k hk
 have q1:=FW hf (k:=(k:Int)) (t:=d.2.2.2.1+(t:Int)) ⟨by omega,by omega⟩
 have q2:=Fr ok.net (link:=(k:Int)) (tick:=d.2.2.2.1+(t:Int)) (by omega) (by omega)
 have q3:=JS ok.net (link:=(k:Int)) (tick:=d.2.2.2.1+(t:Int)) (by omega) (by omega)
 have a:=hB (t+1) ht (ls.getD k dL).2.1.toNat (by omega)
 have b:=hB t (by omega) (ls.getD k dL).1.toNat (by omega)
 unfold Wc
 have hl:lfM ls us (k:Nat) (d.2.2.2.1+(t:Int))=CY ls (k:Int) (d.2.2.2.1+(t:Int))-Bx us (k:Int) (d.2.2.2.1+(t:Int)) us.length:=rfl
 generalize lfM ls us (k:Nat) (d.2.2.2.1+(t:Int))=lf at *
 generalize Fd ls (k:Nat) (d.2.2.2.1+(t:Int))=pr at *
 generalize pt y (t+1) (ls.getD k dL).2.1.toNat=p at *
 generalize pt y t (ls.getD k dL).1.toNat=q at *
 refine ⟨by omega,by omega,by omega,by omega,Int.mul_nonneg (by omega) (by omega),?_⟩
 exact Int.le_trans (Int.mul_le_mul (show min d.2.2.1 lf≤4194304 by omega) (show max 0 (p-q-pr)≤536870912 by omega) (by omega) (by decide)) (by decide)
theorem HI {f:Nat→Int} {B:Int}:∀ {n:Nat},(∀i,i<n→0≤f i∧f i≤B)→0≤Ai f n∧Ai f n≤B*(n:Int)
 | 0,_=>⟨Int.le_refl _,by simp[Ai]⟩
 | n+1,h=>by
  have ih:=HI (f:=f) (B:=B) (n:=n) fun i hi=>h i (by omega)
  have h1:=h n (by omega)
  have e:B*((n+1:Nat):Int)=B*(n:Int)+B:=by rw[show ((n+1:Nat):Int)=(n:Int)+1 by omega,Int.mul_add,Int.mul_one]
  rw [Ai,e]
  omega
theorem bG {ls:List Lnk} {us:List Snd} {d:Dem} {y:List (List Int)} {n:Nat}:Jb ls us d y (n+1)=Jb ls us d y n-Wc ls us d y (n / ls.length) (n % ls.length):=by
 unfold Jb
 rw [Ai];omega
theorem M9 {hn:Int} {ls:List Lnk} {us:List Snd} {d:Dem} {y:List (List Int)} (hf:BA hn ls us=0) (hB:shB hn y) (hb:0≤d.2.2.1∧d.2.2.1≤4194304) (hr:0≤d.2.2.2.1) (hD:Ar d≤32) (hyl:y.length=Ar d+1) (ha:0≤d.1∧d.1<hn) (hc:0≤d.2.1∧d.2.1<hn) {n:Nat} (hn':n≤Ar d*ls.length) :
  -4611686018427387904 ≤ Jb ls us d y n∧Jb ls us d y n≤2251799813685248:=by
 obtain ⟨ok,_⟩:=Cm hf
 have hl:=ok.net.len
 have h1:=HI (f:=fun i=>Wc ls us d y (i / ls.length) (i % ls.length)) (B:=2251799813685248) (n:=n) fun i hi=>by
  obtain ⟨h1,h2⟩:=TN.idx_lt (i:=i) (Nat.lt_of_lt_of_le hi hn')
  have := XA hf hB hb hr (t:=i / ls.length) (k:=i % ls.length) (by omega) h2
  exact ⟨this.2.2.2.2.1,this.2.2.2.2.2⟩
 have h2:=hB (Ar d) (by omega) d.2.1.toNat (by omega)
 have h3:=hB 0 (by omega) d.1.toNat (by omega)
 have hn2:n≤1920:=Nat.le_trans hn' (Nat.le_trans (Nat.mul_le_mul hD hl) (by decide))
 unfold Jb
 generalize pt y (Ar d) d.2.1.toNat=p at *
 generalize pt y 0 d.1.toNat=q at *
 have m1:d.2.2.1*(p-q)≤2251799813685248:=by
  have := Int.mul_le_mul_of_nonneg_left (show p-q≤536870912 by omega) hb.1
  omega
 have m2 : -2251799813685248≤d.2.2.1*(p-q):=by
  have := Int.mul_le_mul_of_nonneg_left (show -536870912≤p-q by omega) hb.1
  omega
 generalize d.2.2.1*(p-q)=m at *
 omega
end Sim
