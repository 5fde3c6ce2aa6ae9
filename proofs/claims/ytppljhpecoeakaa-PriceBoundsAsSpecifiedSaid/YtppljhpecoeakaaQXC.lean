/- What functions of this seat compute, by values: contracts (lemmas of the statement's proof, under the conditions that each names). -/
import Derived.Test.YtppljhpecoeakaaQA
import Derived.Test.YtppljhpecoeakaaQC
set_option maxRecDepth 10000
set_option maxHeartbeats 4000000
set_option linter.unusedVariables false
set_option linter.unusedSimpArgs false
namespace Sim
open Go Go.Proofs
attribute [local congr] Ap Aq Am AD As Ar Aw
def lnP (hn:Int) (l:List Int):Bool := !decide ((l.length:Int)=hn)
noncomputable def M8:(Int)×(List Lnk)×(List Snd)×(Dem)×(List Int)→List PV:=fun (hn,ls,us,d,l) => [ints l,.vptr [I hn,Ax ls,AA us,I d.1,I d.2.1,I d.2.2.1,I d.2.2.2.1,I d.2.2.2.2] 0]
noncomputable def nU:(Int)×(List Lnk)×(List Snd)×(Dem)×(List Int)→PV:=fun (hn,ls,us,d,l)=>B (lnP hn l)
def nV:(Int)×(List Lnk)×(List Snd)×(Dem)×(List Int)→Prop:=fun (hn,ls,us,d,l)=>True
noncomputable def e_bnd1:Nat×Ent:=(33,.v (Ah M8 nU nV))
theorem Aeq:∀i j,M8 i=M8 j→i=j:=by
 rintro ⟨hn₁,ls₁,us₁,d₁,l₁⟩ ⟨hn₂,ls₂,us₂,d₂,l₂⟩ h
 simp only[M8,List.cons.injEq,and_true,PV.lits.injEq,PV.int.injEq,PV.vptr.injEq,true_and,DO,AN,AF]at h
 simp [Prod.ext_iff,h] <;> omega
theorem nW (hn:Int) (ls:List Lnk) (us:List Snd) (d:Dem) (l:List Int):Ah M8 nU nV [ints l,.vptr [I hn,Ax ls,AA us,I d.1,I d.2.1,I d.2.2.1,I d.2.2.2.1,I d.2.2.2.2] 0]=some (B (lnP hn l)):=Ay Aeq (i:=(hn,ls,us,d,l)) trivial
def nX:Prop:=∀(hn:Int) (ls:List Lnk) (us:List Snd) (d:Dem) (l:List Int) ,VC Try.prog 33 [ints l,.vptr [I hn,Ax ls,AA us,I d.1,I d.2.1,I d.2.2.1,I d.2.2.2.1,I d.2.2.2.2] 0] (B (lnP hn l))
def nY:Prop:=AL Try.prog e_bnd1.1 e_bnd1.2
theorem Aer (c:nX):nY:=At fun⟨hn,ls,us,d,l⟩ h=>c hn ls us d l
theorem Aes:nX:=by
 intro hn ls us d l
 refine A5 AO (l := []) (Ao) [] []  Try.func33 rfl (by decide +kernel) (N:=10) rfl (by simp) rfl (by kernel_rfl) fun hs=>?_
 simp only[AI,PV.small,List.length_map,and_true,true_and]at hs
 unfold lnP
 by_cases h:(l.length:Int)=hn
 ·simp +contextual (maxSteps:=4000000) only[↓bdD,bdP,Nat.reduceLT,Nat.reduceBEq,Ai,Nat.reduceAdd,st0,↓reduceIte,Try.f33,ty3,Av,A8,AX,h]
 ·simp +contextual (maxSteps:=4000000) only[↓bdD,bdP,Nat.reduceLT,Nat.reduceBEq,Ai,Nat.reduceAdd,st0,↓reduceIte,Try.f33,ty3,Av,A8,AX,h]
theorem Aet:nY:=Aer Aes
def Ip (hn:Int) (y:List (List Int)):Int:=if y.findIdx (lnP hn)<y.length then (y.findIdx (lnP hn):Int)else -1
theorem zR {hn:Int} {y:List (List Int)} {k:Nat} (hk:k<y.length) (h:lnP hn (y.getD k [])=true) (g:∀j,j<k→lnP hn (y.getD j [])=false):Ip hn y=k:=by
 have e:y.findIdx (lnP hn)=k:=by
  rw [List.findIdx_eq hk]
  refine ⟨?_,fun j hj=>?_⟩
  ·have : y.getD k []=y[k]:=by simp[hk]
   rw [←this];exact h
  ·have hjl:j<y.length:=by omega
   have : y.getD j []=y[j]:=by simp[hjl]
   rw [←this];exact g j hj
 unfold Ip
 rw [e,if_pos hk]
theorem nZ {hn:Int} {y:List (List Int)} (g:∀j,j<y.length→lnP hn (y.getD j [])=false):Ip hn y = -1:=by
 have e:y.findIdx (lnP hn)=y.length:=by
  rw [List.findIdx_eq_length]
  intro x hx
  obtain ⟨j,hj,rfl⟩:=List.getElem_of_mem hx
  have : y.getD j []=y[j]:=by simp[hj]
  rw [←this];exact g j hj
 unfold Ip
 rw [e,if_neg (by omega)]
noncomputable def M9:(Int)×(List Lnk)×(List Snd)×(Dem)×(List (List Int))→List PV:=fun (hn,ls,us,d,y) => [C8 y,.func (.func 33) [] [.vptr [I hn,Ax ls,AA us,I d.1,I d.2.1,I d.2.2.1,I d.2.2.2.1,I d.2.2.2.2] 0]]
noncomputable def oA:(Int)×(List Lnk)×(List Snd)×(Dem)×(List (List Int))→PV:=fun (hn,ls,us,d,y)=>I (Ip hn y)
def oB:(Int)×(List Lnk)×(List Snd)×(Dem)×(List (List Int))→Prop:=fun (hn,ls,us,d,y)=>True
noncomputable def e_idxR:Nat×Ent:=(52,.v (Ah M9 oA oB))
theorem Aeu:∀i j,M9 i=M9 j→i=j:=by
 rintro ⟨hn₁,ls₁,us₁,d₁,y₁⟩ ⟨hn₂,ls₂,us₂,d₂,y₂⟩ h
 simp only[M9,List.cons.injEq,and_true,PV.lits.injEq,PV.int.injEq,PV.func.injEq,PV.vptr.injEq,true_and,AN,AF,Fa]at h
 simp [Prod.ext_iff,h] <;> omega
theorem oC (hn:Int) (ls:List Lnk) (us:List Snd) (d:Dem) (y:List (List Int)):Ah M9 oA oB [C8 y,.func (.func 33) [] [.vptr [I hn,Ax ls,AA us,I d.1,I d.2.1,I d.2.2.1,I d.2.2.2.1,I d.2.2.2.2] 0]]=some (I (Ip hn y)):=Ay Aeu (i:=(hn,ls,us,d,y)) trivial
def oD:Prop:=∀(hn:Int) (ls:List Lnk) (us:List Snd) (d:Dem) (y:List (List Int)) ,VC Try.prog 52 [C8 y,.func (.func 33) [] [.vptr [I hn,Ax ls,AA us,I d.1,I d.2.1,I d.2.2.1,I d.2.2.2.1,I d.2.2.2.2] 0]] (I (Ip hn y))
def oE:Prop:=AL Try.prog e_idxR.1 e_idxR.2
theorem Aev (c:oD):oE:=At fun⟨hn,ls,us,d,y⟩ h=>c hn ls us d y
theorem Aew:oD:=by
 intro hn ls us d y
 refine A5 AO (l := [e_bnd1]) ((Ad Aet Ao)) [] []  Try.func52 rfl (by decide +kernel) (N:=19) rfl (by simp) rfl (by kernel_rfl) fun hs=>?_
 simp only[AI,PV.small,List.length_map,and_true]at hs
 have hsl:=hs.1
 generalize hr:Ip hn y=r
 simp +contextual (maxSteps:=4000000) only[↓bdD,bdP,Nat.reduceLT,Nat.reduceBEq,Nat.reduceAdd,st0,↓reduceIte,e_bnd1,Try.f52,A7]
 refine Au [4,5,8,9,10,11,12,13,14,15,16,17,18] y.length (fun k ρ st'=>ρ 8=I k∧∀j,j<k→lnP hn (y.getD j [])=false) (.refl _) ?_ ?_
 ·simp +contextual (maxSteps:=4000000) only[↓bdD,bdP]
  exact fun j hj=>absurd hj (by omega)
 rintro k ρ ⟨ob,M⟩ hk ⟨h8,hI⟩
 by_cases hlt:k<y.length
 ·have hwk:IntKind.i64.wrap ((k:Int)+1)=((k+1:Nat):Int):=by rw[Af (by omega) (by omega)];omega
  cases hp:lnP hn (y.getD k [])
  ·simp +contextual (maxSteps:=4000000) only[↓bdD,bdP,Nat.reduceLT,Nat.reduceBEq,Nat.reduceAdd,↓reduceIte,nW,Ac,Ab,Bs,A7,AX,h8,hlt,hwk,hp]
   intro j hj
   by_cases e:j=k
   ·rw [e];exact hp
   ·exact hI j (by omega)
  ·have := zR hlt hp hI
   rw [hr]at this
   simp +contextual (maxSteps:=4000000) only[↓bdD,bdP,Nat.reduceLT,Nat.reduceBEq,Ai,Nat.reduceAdd,↓reduceIte,nW,Ac,Ab,Bs,A7,AX,h8,hlt,hp,this]
 ·have e:k=y.length:=by omega
  subst e
  have := nZ hI
  rw [hr]at this
  simp +contextual (maxSteps:=4000000) only[↓bdD,bdP,Nat.reduceLT,Nat.reduceBEq,Ai,↓reduceIte,h8,this]
theorem Aex:oE:=Aev Aew
noncomputable def Na:(Int)×(List Lnk)×(List Snd)×(Dem)×(List (List Int))→List PV:=fun (hn,ls,us,d,y) => [C8 y,.func (.func 33) [] [.vptr [I hn,Ax ls,AA us,I d.1,I d.2.1,I d.2.2.1,I d.2.2.2.1,I d.2.2.2.2] 0]]
noncomputable def oF:(Int)×(List Lnk)×(List Snd)×(Dem)×(List (List Int))→PV:=fun (hn,ls,us,d,y)=>B (decide (0≤Ip hn y))
def oG:(Int)×(List Lnk)×(List Snd)×(Dem)×(List (List Int))→Prop:=fun (hn,ls,us,d,y)=>True
noncomputable def e_cntR:Nat×Ent:=(32,.v (Ah Na oF oG))
theorem Aey:∀i j,Na i=Na j→i=j:=by
 rintro ⟨hn₁,ls₁,us₁,d₁,y₁⟩ ⟨hn₂,ls₂,us₂,d₂,y₂⟩ h
 simp only[Na,List.cons.injEq,and_true,PV.lits.injEq,PV.int.injEq,PV.func.injEq,PV.vptr.injEq,true_and,AN,AF,Fa]at h
 simp [Prod.ext_iff,h] <;> omega
theorem oH (hn:Int) (ls:List Lnk) (us:List Snd) (d:Dem) (y:List (List Int)):Ah Na oF oG [C8 y,.func (.func 33) [] [.vptr [I hn,Ax ls,AA us,I d.1,I d.2.1,I d.2.2.1,I d.2.2.2.1,I d.2.2.2.2] 0]]=some (B (decide (0≤Ip hn y))):=Ay Aey (i:=(hn,ls,us,d,y)) trivial
def oI:Prop:=∀(hn:Int) (ls:List Lnk) (us:List Snd) (d:Dem) (y:List (List Int)) ,VC Try.prog 32 [C8 y,.func (.func 33) [] [.vptr [I hn,Ax ls,AA us,I d.1,I d.2.1,I d.2.2.1,I d.2.2.2.1,I d.2.2.2.2] 0]] (B (decide (0≤Ip hn y)))
def oJ:Prop:=AL Try.prog e_cntR.1 e_cntR.2
theorem Aez (c:oI):oJ:=At fun⟨hn,ls,us,d,y⟩ h=>c hn ls us d y
theorem Ae0:oI:=by
 intro hn ls us d y
 refine A5 AO (l := [e_idxR]) ((Ad Aex Ao)) [] []  Try.func32 rfl (by decide +kernel) (N:=9) rfl (by simp) rfl (by kernel_rfl) fun hs=>?_
 simp only[AI,PV.small,List.length_map,and_true]at hs
 by_cases h:0≤Ip hn y
 ·simp +contextual (maxSteps:=4000000) only[↓bdD,bdP,Nat.reduceLT,Nat.reduceBEq,Ai,Nat.reduceAdd,st0,↓reduceIte,e_idxR,oC,Ac,Ab,Ci,Try.f32,A7,wE,h]
 ·simp +contextual (maxSteps:=4000000) only[↓bdD,bdP,Nat.reduceLT,Nat.reduceBEq,Ai,Nat.reduceAdd,st0,↓reduceIte,e_idxR,oC,Ac,Ab,Ci,Try.f32,A7,wE,h]
theorem Ae1:oJ:=Aez Ae0
theorem fnd_iff {hn:Int} {y:List (List Int)}:0≤Ip hn y↔¬ ∀l∈y,(l.length:Int)=hn:=by
 have key:(∃x∈y,lnP hn x=true)↔¬ ∀l∈y,(l.length:Int)=hn:=by
  constructor
  ·rintro ⟨x,hx,h⟩ g
   have := g x hx
   simp [lnP,this]at h
  ·intro h
   refine Classical.byContradiction fun g=>h fun l hl=>?_
   refine Classical.byContradiction fun c=>g ⟨l,hl,?_⟩
   simp [lnP,c]
 rw [←key,←List.findIdx_lt_length]
 unfold Ip
 constructor
 ·intro h
  split at h
  ·assumption
  ·omega
 ·intro h
  rw [if_pos h];omega
def mnT (l:List Int):Nat→Int
 | 0=>l.getD 0 0
 | k+1=>min (mnT l k) (l.getD k 0)
def mxT (l:List Int):Nat→Int
 | 0=>l.getD 0 0
 | k+1=>max (mxT l k) (l.getD k 0)
noncomputable def TI:List Int→List PV:=fun l => [ints l]
noncomputable def Abg:List Int→PV:=fun l=>I (mnT l l.length)
def Abh:List Int→Prop:=fun l=>l ≠ []
noncomputable def e_mnR:Nat×Ent:=(34,.v (Ah TI Abg Abh))
theorem Ah6:∀i j,TI i=TI j→i=j:=by
 rintro l₁ l₂ h
 simp only[TI,List.cons.injEq,and_true,PV.lits.injEq,true_and,DO]at h
 first | exact h | omega | (simp[Prod.ext_iff,h];done)
theorem oK (l:List Int):Ah TI Abg Abh [ints l]=@ite (Option (PV)) (l ≠ []) (Classical.propDecidable _) (some (I (mnT l l.length))) none:=BP Ah6 l
def Abi:Prop:=∀(l:List Int) (h:l ≠ []) ,VC Try.prog 34 [ints l] (I (mnT l l.length))
def Abj:Prop:=AL Try.prog e_mnR.1 e_mnR.2
theorem Ah7 (c:Abi):Abj:=At fun l h=>c l h
theorem Ah8:Abi:=by
 intro l hne
 refine A5 AO (l := []) (Ao) [] []  Try.func34 rfl (by decide +kernel) (N:=25) rfl (by simp) rfl (by kernel_rfl) fun hs=>?_
 simp only[AI,PV.small,List.length_map,and_true]at hs
 have hp:0<l.length:=List.length_pos_iff.2 hne
 have hpi:¬(l.length:Int)<1:=by omega
 have hsl:=hs.1
 have h01:mnT l 1=l.getD 0 0:=by show min (l.getD 0 0) (l.getD 0 0)=_;omega
 generalize hr:mnT l l.length=r
 simp +contextual (maxSteps:=4000000) only[↓bdD,bdP,Nat.reduceLT,Nat.reduceBEq,Nat.reduceAdd,Int.reduceToNat,st0,↓reduceIte,Try.f34,ty3,AX,hp,hpi]
 refine Au [3,4,12,13,14,15,16,17,18,19,20,21,22,23] (l.length-1) (fun k ρ st'=>ρ 4=I ((k+1:Nat):Int)∧ρ 3=I (mnT l (k+1))) (.refl _) ?_ ?_
 ·simp +contextual (maxSteps:=4000000) only[↓bdD,bdP,Nat.reduceBEq,h01]
 rintro k ρ ⟨ob,M⟩ hk ⟨h4,h3⟩
 by_cases hlt:k<l.length-1
 ·have hlt2:k+1<l.length:=by omega
  have hwk:IntKind.i64.wrap (((k+1:Nat):Int)+1)=((k+1+1:Nat):Int):=by rw[Af (by omega) (by omega)];omega
  have hst:mnT l (k+1+1)=min (mnT l (k+1)) (l.getD (k+1) 0):=rfl
  simp +contextual (maxSteps:=4000000) only[↓bdD,bdP,Nat.reduceLT,Nat.reduceBEq,Nat.reduceAdd,↓reduceIte,ty3,AX,h4,h3,hlt2,hwk,hst]
  exact ⟨hlt,by split <;> omega⟩
 ·have e:k+1=l.length:=by omega
  rw [e]at h4 h3
  rw [hr]at h3
  simp +contextual (maxSteps:=4000000) only[↓bdD,bdP,Nat.reduceLT,Nat.reduceBEq,Ai,Nat.reduceAdd,↓reduceIte,AX,h4,h3]
theorem Ah9:Abj:=Ah7 Ah8
noncomputable def TJ:List Int→List PV:=fun l => [ints l]
noncomputable def Abk:List Int→PV:=fun l=>I (mxT l l.length)
def Abl:List Int→Prop:=fun l=>l ≠ []
noncomputable def e_mxR:Nat×Ent:=(35,.v (Ah TJ Abk Abl))
theorem Aia:∀i j,TJ i=TJ j→i=j:=by
 rintro l₁ l₂ h
 simp only[TJ,List.cons.injEq,and_true,PV.lits.injEq,true_and,DO]at h
 first | exact h | omega | (simp[Prod.ext_iff,h];done)
theorem Abm (l:List Int):Ah TJ Abk Abl [ints l]=@ite (Option (PV)) (l ≠ []) (Classical.propDecidable _) (some (I (mxT l l.length))) none:=BP Aia l
def Abn:Prop:=∀(l:List Int) (h:l ≠ []) ,VC Try.prog 35 [ints l] (I (mxT l l.length))
def Abo:Prop:=AL Try.prog e_mxR.1 e_mxR.2
theorem Aib (c:Abn):Abo:=At fun l h=>c l h
theorem Aic:Abn:=by
 intro l hne
 refine A5 AO (l := []) (Ao) [] []  Try.func35 rfl (by decide +kernel) (N:=25) rfl (by simp) rfl (by kernel_rfl) fun hs=>?_
 simp only[AI,PV.small,List.length_map,and_true]at hs
 have hp:0<l.length:=List.length_pos_iff.2 hne
 have hpi:¬(l.length:Int)<1:=by omega
 have hsl:=hs.1
 have h01:mxT l 1=l.getD 0 0:=by show max (l.getD 0 0) (l.getD 0 0)=_;omega
 generalize hr:mxT l l.length=r
 simp +contextual (maxSteps:=4000000) only[↓bdD,bdP,Nat.reduceLT,Nat.reduceBEq,Nat.reduceAdd,Int.reduceToNat,st0,↓reduceIte,Try.f35,ty3,AX,hp,hpi]
 refine Au [3,4,12,13,14,15,16,17,18,19,20,21,22,23] (l.length-1) (fun k ρ st'=>ρ 4=I ((k+1:Nat):Int)∧ρ 3=I (mxT l (k+1))) (.refl _) ?_ ?_
 ·simp +contextual (maxSteps:=4000000) only[↓bdD,bdP,Nat.reduceBEq,h01]
 rintro k ρ ⟨ob,M⟩ hk ⟨h4,h3⟩
 by_cases hlt:k<l.length-1
 ·have hlt2:k+1<l.length:=by omega
  have hwk:IntKind.i64.wrap (((k+1:Nat):Int)+1)=((k+1+1:Nat):Int):=by rw[Af (by omega) (by omega)];omega
  have hst:mxT l (k+1+1)=max (mxT l (k+1)) (l.getD (k+1) 0):=rfl
  simp +contextual (maxSteps:=4000000) only[↓bdD,bdP,Nat.reduceLT,Nat.reduceBEq,Nat.reduceAdd,↓reduceIte,ty3,AX,h4,h3,hlt2,hwk,hst]
  exact ⟨hlt,by split <;> omega⟩
 ·have e:k+1=l.length:=by omega
  rw [e]at h4 h3
  rw [hr]at h3
  simp +contextual (maxSteps:=4000000) only[↓bdD,bdP,Nat.reduceLT,Nat.reduceBEq,Ai,Nat.reduceAdd,↓reduceIte,AX,h4,h3]
theorem Aid:Abo:=Aib Aic
theorem oL {l:List Int} {b:Int}:∀ {k},k≤l.length→(0<k)→(b≤mnT l k↔∀j,j<k→b≤l.getD j 0)
 | 0,_,h=>absurd h (by omega)
 | 1,hk,_=>by
  show b≤min (l.getD 0 0) (l.getD 0 0)↔_
  constructor
  ·intro h j hj
   rw [show j=0 by omega];omega
  ·intro h;have:=h 0 (by omega);omega
 | k+2,hk,_=>by
  have ih:=oL (l:=l) (b:=b) (k:=k+1) (by omega) (by omega)
  show b≤min (mnT l (k+1)) (l.getD (k+1) 0)↔_
  constructor
  ·intro h j hj
   by_cases e:j=k+1
   ·rw [e];omega
   ·exact ih.1 (by omega) j (by omega)
  ·intro h
   have h1:=ih.2 fun j hj=>h j (by omega)
   have h2:=h (k+1) (by omega)
   omega
theorem oM {l:List Int} {b:Int}:∀ {k},k≤l.length→(0<k)→(mxT l k≤b↔∀j,j<k→l.getD j 0≤b)
 | 0,_,h=>absurd h (by omega)
 | 1,hk,_=>by
  show max (l.getD 0 0) (l.getD 0 0)≤b↔_
  constructor
  ·intro h j hj
   rw [show j=0 by omega];omega
  ·intro h;have:=h 0 (by omega);omega
 | k+2,hk,_=>by
  have ih:=oM (l:=l) (b:=b) (k:=k+1) (by omega) (by omega)
  show max (mxT l (k+1)) (l.getD (k+1) 0)≤b↔_
  constructor
  ·intro h j hj
   by_cases e:j=k+1
   ·rw [e];omega
   ·exact ih.1 (by omega) j (by omega)
  ·intro h
   have h1:=ih.2 fun j hj=>h j (by omega)
   have h2:=h (k+1) (by omega)
   omega
end Sim
namespace Sim
open Go Go.Proofs
attribute [local congr] Ap Aq Am AD As Ar Aw
abbrev pt (y:List (List Int)) (t k:Nat):Int:=(y.getD t []).getD k 0
def shA (hn:Int) (d:Dem) (y:List (List Int)):Prop:=(y.length:Int)=d.2.2.2.2-d.2.2.2.1+1∧∀l∈y,(l.length:Int)=hn
instance {hn:Int} {d:Dem} {y:List (List Int)}:Decidable (shA hn d y):=inferInstanceAs (Decidable (_∧_))
def shB (hn:Int) (y:List (List Int)):Prop:=∀t,t<y.length→∀k,k<hn.toNat→0≤pt y t k∧pt y t k≤536870912
instance {hn:Int} {y:List (List Int)}:Decidable (shB hn y):=inferInstanceAs (Decidable (∀t,t<y.length→_))
def shC (hn:Int) (y:List (List Int)):Prop:=∀t,t<y.length-1→∀k,k<hn.toNat→pt y (t+1) k≤pt y t k
instance {hn:Int} {y:List (List Int)}:Decidable (shC hn y):=inferInstanceAs (Decidable (∀t,t<y.length-1→_))
def shE (hn:Int) (d:Dem) (y:List (List Int)):Int:=if ¬shA hn d y then 1 else if ¬shB hn y then 3 else if ¬shC hn y then 22 else 0
def EJ (hn:Int) (ls:List Lnk) (us:List Snd) (d:Dem) (y:List (List Int)):Int:=if CA hn ls us d≠0 then CA hn ls us d else shE hn d y
def TK (ls:List Lnk) (us:List Snd) (d:Dem) (y:List (List Int)) (t k:Nat):Int :=
 min d.2.2.1 (lfM ls us (k:Nat) (d.2.2.2.1+(t:Int)))*max 0 (pt y (t+1) (ls.getD k dL).2.1.toNat-pt y t (ls.getD k dL).1.toNat-EG ls (k:Nat) (d.2.2.2.1+(t:Int)))
def FY (ls:List Lnk) (us:List Snd) (d:Dem) (y:List (List Int)) (n:Nat):Int :=
 d.2.2.1 * (pt y (Al d) d.2.1.toNat-pt y 0 d.1.toNat)-Aj (fun i=>TK ls us d y (i / ls.length) (i % ls.length)) n
def FZ (hn:Int) (ls:List Lnk) (us:List Snd) (d:Dem) (y:List (List Int)):Int:=if EJ hn ls us d y≠0 then 0 else FY ls us d y (Al d*ls.length)
theorem pck_zero {hn:Int} {ls:List Lnk} {us:List Snd} {d:Dem}:CA hn ls us d=0↔Dv hn ls us d=0∧d.2.2.1≤4194304:=by
 unfold CA
 constructor
 ·intro h
  split at h
  ·contradiction
  ·rename_i c
   split at h
   ·cases h
   ·exact ⟨Classical.not_not.1 c,by omega⟩
 ·rintro ⟨h1,h2⟩
  rw [if_neg (fun g=>g h1),if_neg (by omega)]
theorem QU {ls:List Lnk} {us:List Snd} {r:Int} {k t:Nat}:(EI ls us r k t)[1]?=some (I (r+(t:Int))):=rfl
theorem QV {ls:List Lnk} {us:List Snd} {r:Int} {k t:Nat}:(EI ls us r k t)[2]?=some (I (ls.getD k dL).1):=by simp[EI,lkC]
theorem QW {ls:List Lnk} {us:List Snd} {r:Int} {k t:Nat}:(EI ls us r k t)[3]?=some (I (ls.getD k dL).2.1):=by simp[EI,lkC]
theorem LG {ls:List Lnk} {us:List Snd} {r:Int} {k t:Nat}:(EI ls us r k t)[52]?=some (I (lfM ls us (k:Nat) (r+(t:Int)))):=by
 unfold EI
 rw [List.getElem?_cons_succ,List.getElem?_cons_succ,List.getElem?_append_right (by rw[BJ];omega),BJ];rfl
theorem X1 {ls:List Lnk} {us:List Snd} {r:Int} {k t:Nat}:(EI ls us r k t)[53]?=some (I (EG ls (k:Nat) (r+(t:Int)))):=by
 unfold EI
 rw [List.getElem?_cons_succ,List.getElem?_cons_succ,List.getElem?_append_right (by rw[BJ];omega),BJ];rfl
theorem B8 {ls:List Lnk} {us:List Snd} {r:Int} {k t:Nat}:(EI ls us r k t).length=54:=by simp[EI,BJ]
theorem LH {ls:List Lnk} {us:List Snd} {r:Int} {D i:Nat} {y:List PV} (h:(Jb ls us r D)[i]?=some y):i<D*ls.length∧y = [zG ls us r (i % ls.length) (i / ls.length)]:=by
 unfold Jb at h
 rw [List.getElem?_map,Option.map_eq_some_iff]at h
 obtain ⟨x,h1,h2⟩:=h
 obtain ⟨hi,rfl⟩:=List.getElem?_eq_some_iff.1 h1
 rw [List.length_range]at hi
 rw [List.getElem_range]at h2
 exact ⟨hi,h2.symm⟩
theorem J9 {ls:List Lnk} {us:List Snd} {r:Int} {D:Nat}:(Jb ls us r D).length=D*ls.length:=by unfold Jb;rw[List.length_map,List.length_range]
theorem Ka {ls:List Lnk} {us:List Snd} {r:Int} {D:Nat}:∀y∈Jb ls us r D,y.length=1:=fun y hy=>by
 obtain ⟨i,_,rfl⟩:=List.mem_map.1 hy
 rfl
theorem QX {hn:Int} {ls:List Lnk} {us:List Snd} {d:Dem} {y:List (List Int)} (hf:Bz hn ls us=0) (hB:shB hn y) (hb:0≤d.2.2.1∧d.2.2.1≤4194304) (hr:0≤d.2.2.2.1) {t k:Nat} (ht:t+1<y.length) (hk:k<ls.length) :
  0 ≤ lfM ls us (k:Nat) (d.2.2.2.1+(t:Int))∧lfM ls us (k:Nat) (d.2.2.2.1+(t:Int))≤1073741824∧0≤EG ls (k:Nat) (d.2.2.2.1+(t:Int))∧EG ls (k:Nat) (d.2.2.2.1+(t:Int))≤1000000 ∧
  0 ≤ TK ls us d y t k∧TK ls us d y t k≤2251799813685248:=by
 obtain ⟨ok,_⟩:=B2 hf
 have hend:=ok.net.ends k hk
 have q1:=E8 hf (k:=(k:Int)) (t:=d.2.2.2.1+(t:Int)) ⟨by omega,by omega⟩
 have q2:=EH ok.net (link:=(k:Int)) (tick:=d.2.2.2.1+(t:Int)) (by omega) (by omega)
 have q3:=JT ok.net (link:=(k:Int)) (tick:=d.2.2.2.1+(t:Int)) (by omega) (by omega)
 have a:=hB (t+1) ht (ls.getD k dL).2.1.toNat (by omega)
 have b:=hB t (by omega) (ls.getD k dL).1.toNat (by omega)
 unfold TK
 have hl:lfM ls us (k:Nat) (d.2.2.2.1+(t:Int))=CT ls (k:Int) (d.2.2.2.1+(t:Int))-Bb us (k:Int) (d.2.2.2.1+(t:Int)) us.length:=rfl
 generalize lfM ls us (k:Nat) (d.2.2.2.1+(t:Int))=lf at *
 generalize EG ls (k:Nat) (d.2.2.2.1+(t:Int))=pr at *
 generalize pt y (t+1) (ls.getD k dL).2.1.toNat=p at *
 generalize pt y t (ls.getD k dL).1.toNat=q at *
 refine ⟨by omega,by omega,by omega,by omega,Int.mul_nonneg (by omega) (by omega),?_⟩
 exact Int.le_trans (Int.mul_le_mul (show min d.2.2.1 lf≤4194304 by omega) (show max 0 (p-q-pr)≤536870912 by omega) (by omega) (by decide)) (by decide)
theorem HI {f:Nat→Int} {B:Int}:∀ {n:Nat},(∀i,i<n→0≤f i∧f i≤B)→0≤Aj f n∧Aj f n≤B*(n:Int)
 | 0,_=>⟨Int.le_refl _,by simp[Aj]⟩
 | n+1,h=>by
  have ih:=HI (f:=f) (B:=B) (n:=n) fun i hi=>h i (by omega)
  have h1:=h n (by omega)
  have e:B*((n+1:Nat):Int)=B*(n:Int)+B:=by rw[show ((n+1:Nat):Int)=(n:Int)+1 by omega,Int.mul_add,Int.mul_one]
  rw [Aj,e]
  omega
theorem Pc {ls:List Lnk} {us:List Snd} {d:Dem} {y:List (List Int)} {n:Nat}:FY ls us d y (n+1)=FY ls us d y n-TK ls us d y (n / ls.length) (n % ls.length):=by
 unfold FY
 rw [Aj];omega
theorem F3 {hn:Int} {ls:List Lnk} {us:List Snd} {d:Dem} {y:List (List Int)} (hf:Bz hn ls us=0) (hB:shB hn y) (hb:0≤d.2.2.1∧d.2.2.1≤4194304) (hr:0≤d.2.2.2.1) (hD:Al d≤32) (hyl:y.length=Al d+1) (ha:0≤d.1∧d.1<hn) (hc:0≤d.2.1∧d.2.1<hn) {n:Nat} (hn':n≤Al d*ls.length) :
  -4611686018427387904 ≤ FY ls us d y n∧FY ls us d y n≤2251799813685248:=by
 obtain ⟨ok,_⟩:=B2 hf
 have hl:=ok.net.len
 have h1:=HI (f:=fun i=>TK ls us d y (i / ls.length) (i % ls.length)) (B:=2251799813685248) (n:=n) fun i hi=>by
  obtain ⟨h1,h2⟩:=TN.idx_lt (i:=i) (Nat.lt_of_lt_of_le hi hn')
  have := QX hf hB hb hr (t:=i / ls.length) (k:=i % ls.length) (by omega) h2
  exact ⟨this.2.2.2.2.1,this.2.2.2.2.2⟩
 have h2:=hB (Al d) (by omega) d.2.1.toNat (by omega)
 have h3:=hB 0 (by omega) d.1.toNat (by omega)
 have hn2:n≤1920:=Nat.le_trans hn' (Nat.le_trans (Nat.mul_le_mul hD hl) (by decide))
 unfold FY
 generalize pt y (Al d) d.2.1.toNat=p at *
 generalize pt y 0 d.1.toNat=q at *
 have m1:d.2.2.1*(p-q)≤2251799813685248:=by
  have := Int.mul_le_mul_of_nonneg_left (show p-q≤536870912 by omega) hb.1
  omega
 have m2 : -2251799813685248≤d.2.2.1*(p-q):=by
  have := Int.mul_le_mul_of_nonneg_left (show -536870912≤p-q by omega) hb.1
  omega
 generalize d.2.2.1*(p-q)=m at *
 omega
end Sim
