/- What functions of this seat compute, by values: contracts (lemmas of the statement's proof, under the conditions that each names). -/
import Derived.Test.YtppljhpecoeakaaQA
import Derived.Test.YtppljhpecoeakaaQC
set_option maxRecDepth 10000
set_option maxHeartbeats 4000000
set_option linter.unusedVariables false
set_option linter.unusedSimpArgs false
namespace Sim
open Go Go.Proofs
attribute [local congr] Ap Aq Al AC As Ar Av
def lnP (hn:Int) (l:List Int):Bool := !decide ((l.length:Int)=hn)
noncomputable def Nd:(Int)×(List Lnk)×(List Snd)×(Dem)×(List Int)→List PV:=fun (hn,ls,us,d,l) => [ints l,.vptr [I hn,Az ls,AB us,I d.1,I d.2.1,I d.2.2.1,I d.2.2.2.1,I d.2.2.2.2] 0]
noncomputable def nX:(Int)×(List Lnk)×(List Snd)×(Dem)×(List Int)→PV:=fun (hn,ls,us,d,l)=>B (lnP hn l)
def nY:(Int)×(List Lnk)×(List Snd)×(Dem)×(List Int)→Prop:=fun (hn,ls,us,d,l)=>True
noncomputable def e_bnd1:Nat×Ent:=(33,.v (Ah Nd nX nY))
theorem Aeu:∀i j,Nd i=Nd j→i=j:=by
 rintro ⟨hn₁,ls₁,us₁,d₁,l₁⟩ ⟨hn₂,ls₂,us₂,d₂,l₂⟩ h
 simp only[Nd,List.cons.injEq,and_true,PV.lits.injEq,PV.int.injEq,PV.vptr.injEq,true_and,DP,AR,AG]at h
 simp [Prod.ext_iff,h] <;> omega
theorem nZ (hn:Int) (ls:List Lnk) (us:List Snd) (d:Dem) (l:List Int):Ah Nd nX nY [ints l,.vptr [I hn,Az ls,AB us,I d.1,I d.2.1,I d.2.2.1,I d.2.2.2.1,I d.2.2.2.2] 0]=some (B (lnP hn l)):=AA Aeu (i:=(hn,ls,us,d,l)) trivial
def oA:Prop:=∀(hn:Int) (ls:List Lnk) (us:List Snd) (d:Dem) (l:List Int) ,VC Try.prog 33 [ints l,.vptr [I hn,Az ls,AB us,I d.1,I d.2.1,I d.2.2.1,I d.2.2.2.1,I d.2.2.2.2] 0] (B (lnP hn l))
def oB:Prop:=AM Try.prog e_bnd1.1 e_bnd1.2
theorem Aev (c:oA):oB:=At fun⟨hn,ls,us,d,l⟩ h=>c hn ls us d l
theorem Aew:oA:=by
 intro hn ls us d l
 refine A5 AP (l := []) (Ao) [] []  Try.func33 rfl (by decide +kernel) (N:=10) rfl (by simp) rfl (by kernel_rfl) fun hs=>?_
 simp only[AI,PV.small,List.length_map,and_true,true_and]at hs
 unfold lnP
 by_cases h:(l.length:Int)=hn
 ·simp +contextual (maxSteps:=4000000) only[↓bdD,bdP,Nat.reduceLT,Nat.reduceBEq,Ai,Nat.reduceAdd,st0,↓reduceIte,Try.f33,ty3,Aw,Bk,AZ,h]
 ·simp +contextual (maxSteps:=4000000) only[↓bdD,bdP,Nat.reduceLT,Nat.reduceBEq,Ai,Nat.reduceAdd,st0,↓reduceIte,Try.f33,ty3,Aw,Bk,AZ,h]
theorem Aex:oB:=Aev Aew
def Is (hn:Int) (y:List (List Int)):Int:=if y.findIdx (lnP hn)<y.length then (y.findIdx (lnP hn):Int)else -1
theorem zU {hn:Int} {y:List (List Int)} {k:Nat} (hk:k<y.length) (h:lnP hn (y.getD k [])=true) (g:∀j,j<k→lnP hn (y.getD j [])=false):Is hn y=k:=by
 have e:y.findIdx (lnP hn)=k:=by
  rw [List.findIdx_eq hk]
  refine ⟨?_,fun j hj=>?_⟩
  ·have : y.getD k []=y[k]:=by simp[hk]
   rw [←this];exact h
  ·have hjl:j<y.length:=by omega
   have : y.getD j []=y[j]:=by simp[hjl]
   rw [←this];exact g j hj
 unfold Is
 rw [e,if_pos hk]
theorem oC {hn:Int} {y:List (List Int)} (g:∀j,j<y.length→lnP hn (y.getD j [])=false):Is hn y = -1:=by
 have e:y.findIdx (lnP hn)=y.length:=by
  rw [List.findIdx_eq_length]
  intro x hx
  obtain ⟨j,hj,rfl⟩:=List.getElem_of_mem hx
  have : y.getD j []=y[j]:=by simp[hj]
  rw [←this];exact g j hj
 unfold Is
 rw [e,if_neg (by omega)]
noncomputable def Nf:(Int)×(List Lnk)×(List Snd)×(Dem)×(List (List Int))→List PV:=fun (hn,ls,us,d,y) => [DK y,.func (.func 33) [] [.vptr [I hn,Az ls,AB us,I d.1,I d.2.1,I d.2.2.1,I d.2.2.2.1,I d.2.2.2.2] 0]]
noncomputable def oD:(Int)×(List Lnk)×(List Snd)×(Dem)×(List (List Int))→PV:=fun (hn,ls,us,d,y)=>I (Is hn y)
def oE:(Int)×(List Lnk)×(List Snd)×(Dem)×(List (List Int))→Prop:=fun (hn,ls,us,d,y)=>True
noncomputable def e_idxR:Nat×Ent:=(52,.v (Ah Nf oD oE))
theorem Aey:∀i j,Nf i=Nf j→i=j:=by
 rintro ⟨hn₁,ls₁,us₁,d₁,y₁⟩ ⟨hn₂,ls₂,us₂,d₂,y₂⟩ h
 simp only[Nf,List.cons.injEq,and_true,PV.lits.injEq,PV.int.injEq,PV.func.injEq,PV.vptr.injEq,true_and,AR,AG,HL]at h
 simp [Prod.ext_iff,h] <;> omega
theorem oF (hn:Int) (ls:List Lnk) (us:List Snd) (d:Dem) (y:List (List Int)):Ah Nf oD oE [DK y,.func (.func 33) [] [.vptr [I hn,Az ls,AB us,I d.1,I d.2.1,I d.2.2.1,I d.2.2.2.1,I d.2.2.2.2] 0]]=some (I (Is hn y)):=AA Aey (i:=(hn,ls,us,d,y)) trivial
def oG:Prop:=∀(hn:Int) (ls:List Lnk) (us:List Snd) (d:Dem) (y:List (List Int)) ,VC Try.prog 52 [DK y,.func (.func 33) [] [.vptr [I hn,Az ls,AB us,I d.1,I d.2.1,I d.2.2.1,I d.2.2.2.1,I d.2.2.2.2] 0]] (I (Is hn y))
def oH:Prop:=AM Try.prog e_idxR.1 e_idxR.2
theorem Aez (c:oG):oH:=At fun⟨hn,ls,us,d,y⟩ h=>c hn ls us d y
theorem Ae0:oG:=by
 intro hn ls us d y
 refine A5 AP (l := [e_bnd1]) ((Ae Aex Ao)) [] []  Try.func52 rfl (by decide +kernel) (N:=19) rfl (by simp) rfl (by kernel_rfl) fun hs=>?_
 simp only[AI,PV.small,List.length_map,and_true]at hs
 have hsl:=hs.1
 generalize hr:Is hn y=r
 simp +contextual (maxSteps:=4000000) only[↓bdD,bdP,Nat.reduceLT,Nat.reduceBEq,Nat.reduceAdd,st0,↓reduceIte,e_bnd1,Try.f52,Bf]
 refine Ax [4,5,8,9,10,11,12,13,14,15,16,17,18] y.length (fun k ρ st'=>ρ 8=I k∧∀j,j<k→lnP hn (y.getD j [])=false) (.refl _) ?_ ?_
 ·simp +contextual (maxSteps:=4000000) only[↓bdD,bdP]
  exact fun j hj=>absurd hj (by omega)
 rintro k ρ ⟨ob,M⟩ hk ⟨h8,hI⟩
 by_cases hlt:k<y.length
 ·have hwk:IntKind.i64.wrap ((k:Int)+1)=((k+1:Nat):Int):=by rw[Ag (by omega) (by omega)];omega
  cases hp:lnP hn (y.getD k [])
  ·simp +contextual (maxSteps:=4000000) only[↓bdD,bdP,Nat.reduceLT,Nat.reduceBEq,Nat.reduceAdd,↓reduceIte,nZ,Ac,Ab,CD,Bf,AZ,h8,hlt,hwk,hp]
   intro j hj
   by_cases e:j=k
   ·rw [e];exact hp
   ·exact hI j (by omega)
  ·have := zU hlt hp hI
   rw [hr]at this
   simp +contextual (maxSteps:=4000000) only[↓bdD,bdP,Nat.reduceLT,Nat.reduceBEq,Ai,Nat.reduceAdd,↓reduceIte,nZ,Ac,Ab,CD,Bf,AZ,h8,hlt,hp,this]
 ·have e:k=y.length:=by omega
  subst e
  have := oC hI
  rw [hr]at this
  simp +contextual (maxSteps:=4000000) only[↓bdD,bdP,Nat.reduceLT,Nat.reduceBEq,Ai,↓reduceIte,h8,this]
theorem Ae1:oH:=Aez Ae0
noncomputable def Ng:(Int)×(List Lnk)×(List Snd)×(Dem)×(List (List Int))→List PV:=fun (hn,ls,us,d,y) => [DK y,.func (.func 33) [] [.vptr [I hn,Az ls,AB us,I d.1,I d.2.1,I d.2.2.1,I d.2.2.2.1,I d.2.2.2.2] 0]]
noncomputable def oI:(Int)×(List Lnk)×(List Snd)×(Dem)×(List (List Int))→PV:=fun (hn,ls,us,d,y)=>B (decide (0≤Is hn y))
def oJ:(Int)×(List Lnk)×(List Snd)×(Dem)×(List (List Int))→Prop:=fun (hn,ls,us,d,y)=>True
noncomputable def e_cntR:Nat×Ent:=(32,.v (Ah Ng oI oJ))
theorem Ae2:∀i j,Ng i=Ng j→i=j:=by
 rintro ⟨hn₁,ls₁,us₁,d₁,y₁⟩ ⟨hn₂,ls₂,us₂,d₂,y₂⟩ h
 simp only[Ng,List.cons.injEq,and_true,PV.lits.injEq,PV.int.injEq,PV.func.injEq,PV.vptr.injEq,true_and,AR,AG,HL]at h
 simp [Prod.ext_iff,h] <;> omega
theorem oK (hn:Int) (ls:List Lnk) (us:List Snd) (d:Dem) (y:List (List Int)):Ah Ng oI oJ [DK y,.func (.func 33) [] [.vptr [I hn,Az ls,AB us,I d.1,I d.2.1,I d.2.2.1,I d.2.2.2.1,I d.2.2.2.2] 0]]=some (B (decide (0≤Is hn y))):=AA Ae2 (i:=(hn,ls,us,d,y)) trivial
def oL:Prop:=∀(hn:Int) (ls:List Lnk) (us:List Snd) (d:Dem) (y:List (List Int)) ,VC Try.prog 32 [DK y,.func (.func 33) [] [.vptr [I hn,Az ls,AB us,I d.1,I d.2.1,I d.2.2.1,I d.2.2.2.1,I d.2.2.2.2] 0]] (B (decide (0≤Is hn y)))
def oN:Prop:=AM Try.prog e_cntR.1 e_cntR.2
theorem Ae3 (c:oL):oN:=At fun⟨hn,ls,us,d,y⟩ h=>c hn ls us d y
theorem Ae4:oL:=by
 intro hn ls us d y
 refine A5 AP (l := [e_idxR]) ((Ae Ae1 Ao)) [] []  Try.func32 rfl (by decide +kernel) (N:=9) rfl (by simp) rfl (by kernel_rfl) fun hs=>?_
 simp only[AI,PV.small,List.length_map,and_true]at hs
 by_cases h:0≤Is hn y
 ·simp +contextual (maxSteps:=4000000) only[↓bdD,bdP,Nat.reduceLT,Nat.reduceBEq,Ai,Nat.reduceAdd,st0,↓reduceIte,e_idxR,oF,Ac,Ab,BT,Try.f32,Bf,wI,h]
 ·simp +contextual (maxSteps:=4000000) only[↓bdD,bdP,Nat.reduceLT,Nat.reduceBEq,Ai,Nat.reduceAdd,st0,↓reduceIte,e_idxR,oF,Ac,Ab,BT,Try.f32,Bf,wI,h]
theorem Ae5:oN:=Ae3 Ae4
theorem fnd_iff {hn:Int} {y:List (List Int)}:0≤Is hn y↔¬ ∀l∈y,(l.length:Int)=hn:=by
 have key:(∃x∈y,lnP hn x=true)↔¬ ∀l∈y,(l.length:Int)=hn:=by
  constructor
  ·rintro ⟨x,hx,h⟩ g
   have := g x hx
   simp [lnP,this]at h
  ·intro h
   refine Classical.byContradiction fun g=>h fun l hl=>?_
   refine Classical.byContradiction fun c=>g ⟨l,hl,?_⟩
   simp [lnP,c]
 rw [←key,←List.findIdx_lt_length]
 unfold Is
 constructor
 ·intro h
  split at h
  ·assumption
  ·omega
 ·intro h
  rw [if_pos h];omega
def mnT (l:List Int):Nat→Int
 | 0=>l.getD 0 0
 | k+1=>min (mnT l k) (l.getD k 0)
def mxT (l:List Int):Nat→Int
 | 0=>l.getD 0 0
 | k+1=>max (mxT l k) (l.getD k 0)
noncomputable def TQ:List Int→List PV:=fun l => [ints l]
noncomputable def Abk:List Int→PV:=fun l=>I (mnT l l.length)
def Abl:List Int→Prop:=fun l=>l ≠ []
noncomputable def e_mnR:Nat×Ent:=(34,.v (Ah TQ Abk Abl))
theorem Aic:∀i j,TQ i=TQ j→i=j:=by
 rintro l₁ l₂ h
 simp only[TQ,List.cons.injEq,and_true,PV.lits.injEq,true_and,DP]at h
 first | exact h | omega | (simp[Prod.ext_iff,h];done)
theorem oO (l:List Int):Ah TQ Abk Abl [ints l]=@ite (Option (PV)) (l ≠ []) (Classical.propDecidable _) (some (I (mnT l l.length))) none:=BV Aic l
def Abm:Prop:=∀(l:List Int) (h:l ≠ []) ,VC Try.prog 34 [ints l] (I (mnT l l.length))
def Abn:Prop:=AM Try.prog e_mnR.1 e_mnR.2
theorem Aid (c:Abm):Abn:=At fun l h=>c l h
theorem Aie:Abm:=by
 intro l hne
 refine A5 AP (l := []) (Ao) [] []  Try.func34 rfl (by decide +kernel) (N:=25) rfl (by simp) rfl (by kernel_rfl) fun hs=>?_
 simp only[AI,PV.small,List.length_map,and_true]at hs
 have hp:0<l.length:=List.length_pos_iff.2 hne
 have hpi:¬(l.length:Int)<1:=by omega
 have hsl:=hs.1
 have h01:mnT l 1=l.getD 0 0:=by show min (l.getD 0 0) (l.getD 0 0)=_;omega
 generalize hr:mnT l l.length=r
 simp +contextual (maxSteps:=4000000) only[↓bdD,bdP,Nat.reduceLT,Nat.reduceBEq,Nat.reduceAdd,Int.reduceToNat,st0,↓reduceIte,Try.f34,ty3,AZ,hp,hpi]
 refine Ax [3,4,12,13,14,15,16,17,18,19,20,21,22,23] (l.length-1) (fun k ρ st'=>ρ 4=I ((k+1:Nat):Int)∧ρ 3=I (mnT l (k+1))) (.refl _) ?_ ?_
 ·simp +contextual (maxSteps:=4000000) only[↓bdD,bdP,Nat.reduceBEq,h01]
 rintro k ρ ⟨ob,M⟩ hk ⟨h4,h3⟩
 by_cases hlt:k<l.length-1
 ·have hlt2:k+1<l.length:=by omega
  have hwk:IntKind.i64.wrap (((k+1:Nat):Int)+1)=((k+1+1:Nat):Int):=by rw[Ag (by omega) (by omega)];omega
  have hst:mnT l (k+1+1)=min (mnT l (k+1)) (l.getD (k+1) 0):=rfl
  simp +contextual (maxSteps:=4000000) only[↓bdD,bdP,Nat.reduceLT,Nat.reduceBEq,Nat.reduceAdd,↓reduceIte,ty3,AZ,h4,h3,hlt2,hwk,hst]
  exact ⟨hlt,by split <;> omega⟩
 ·have e:k+1=l.length:=by omega
  rw [e]at h4 h3
  rw [hr]at h3
  simp +contextual (maxSteps:=4000000) only[↓bdD,bdP,Nat.reduceLT,Nat.reduceBEq,Ai,Nat.reduceAdd,↓reduceIte,AZ,h4,h3]
theorem Aif:Abn:=Aid Aie
noncomputable def TR:List Int→List PV:=fun l => [ints l]
noncomputable def Abo:List Int→PV:=fun l=>I (mxT l l.length)
def Abp:List Int→Prop:=fun l=>l ≠ []
noncomputable def e_mxR:Nat×Ent:=(35,.v (Ah TR Abo Abp))
theorem Aig:∀i j,TR i=TR j→i=j:=by
 rintro l₁ l₂ h
 simp only[TR,List.cons.injEq,and_true,PV.lits.injEq,true_and,DP]at h
 first | exact h | omega | (simp[Prod.ext_iff,h];done)
theorem Abq (l:List Int):Ah TR Abo Abp [ints l]=@ite (Option (PV)) (l ≠ []) (Classical.propDecidable _) (some (I (mxT l l.length))) none:=BV Aig l
def Abr:Prop:=∀(l:List Int) (h:l ≠ []) ,VC Try.prog 35 [ints l] (I (mxT l l.length))
def Abs:Prop:=AM Try.prog e_mxR.1 e_mxR.2
theorem Aih (c:Abr):Abs:=At fun l h=>c l h
theorem Aii:Abr:=by
 intro l hne
 refine A5 AP (l := []) (Ao) [] []  Try.func35 rfl (by decide +kernel) (N:=25) rfl (by simp) rfl (by kernel_rfl) fun hs=>?_
 simp only[AI,PV.small,List.length_map,and_true]at hs
 have hp:0<l.length:=List.length_pos_iff.2 hne
 have hpi:¬(l.length:Int)<1:=by omega
 have hsl:=hs.1
 have h01:mxT l 1=l.getD 0 0:=by show max (l.getD 0 0) (l.getD 0 0)=_;omega
 generalize hr:mxT l l.length=r
 simp +contextual (maxSteps:=4000000) only[↓bdD,bdP,Nat.reduceLT,Nat.reduceBEq,Nat.reduceAdd,Int.reduceToNat,st0,↓reduceIte,Try.f35,ty3,AZ,hp,hpi]
 refine Ax [3,4,12,13,14,15,16,17,18,19,20,21,22,23] (l.length-1) (fun k ρ st'=>ρ 4=I ((k+1:Nat):Int)∧ρ 3=I (mxT l (k+1))) (.refl _) ?_ ?_
 ·simp +contextual (maxSteps:=4000000) only[↓bdD,bdP,Nat.reduceBEq,h01]
 rintro k ρ ⟨ob,M⟩ hk ⟨h4,h3⟩
 by_cases hlt:k<l.length-1
 ·have hlt2:k+1<l.length:=by omega
  have hwk:IntKind.i64.wrap (((k+1:Nat):Int)+1)=((k+1+1:Nat):Int):=by rw[Ag (by omega) (by omega)];omega
  have hst:mxT l (k+1+1)=max (mxT l (k+1)) (l.getD (k+1) 0):=rfl
  simp +contextual (maxSteps:=4000000) only[↓bdD,bdP,Nat.reduceLT,Nat.reduceBEq,Nat.reduceAdd,↓reduceIte,ty3,AZ,h4,h3,hlt2,hwk,hst]
  exact ⟨hlt,by split <;> omega⟩
 ·have e:k+1=l.length:=by omega
  rw [e]at h4 h3
  rw [hr]at h3
  simp +contextual (maxSteps:=4000000) only[↓bdD,bdP,Nat.reduceLT,Nat.reduceBEq,Ai,Nat.reduceAdd,↓reduceIte,AZ,h4,h3]
theorem Aij:Abs:=Aih Aii
theorem oP {l:List Int} {b:Int}:∀ {k},k≤l.length→(0<k)→(b≤mnT l k↔∀j,j<k→b≤l.getD j 0)
 | 0,_,h=>absurd h (by omega)
 | 1,hk,_=>by
  show b≤min (l.getD 0 0) (l.getD 0 0)↔_
  constructor
  ·intro h j hj
   rw [show j=0 by omega];omega
  ·intro h;have:=h 0 (by omega);omega
 | k+2,hk,_=>by
  have ih:=oP (l:=l) (b:=b) (k:=k+1) (by omega) (by omega)
  show b≤min (mnT l (k+1)) (l.getD (k+1) 0)↔_
  constructor
  ·intro h j hj
   by_cases e:j=k+1
   ·rw [e];omega
   ·exact ih.1 (by omega) j (by omega)
  ·intro h
   have h1:=ih.2 fun j hj=>h j (by omega)
   have h2:=h (k+1) (by omega)
   omega
theorem oQ {l:List Int} {b:Int}:∀ {k},k≤l.length→(0<k)→(mxT l k≤b↔∀j,j<k→l.getD j 0≤b)
 | 0,_,h=>absurd h (by omega)
 | 1,hk,_=>by
  show max (l.getD 0 0) (l.getD 0 0)≤b↔_
  constructor
  ·intro h j hj
   rw [show j=0 by omega];omega
  ·intro h;have:=h 0 (by omega);omega
 | k+2,hk,_=>by
  have ih:=oQ (l:=l) (b:=b) (k:=k+1) (by omega) (by omega)
  show max (mxT l (k+1)) (l.getD (k+1) 0)≤b↔_
  constructor
  ·intro h j hj
   by_cases e:j=k+1
   ·rw [e];omega
   ·exact ih.1 (by omega) j (by omega)
  ·intro h
   have h1:=ih.2 fun j hj=>h j (by omega)
   have h2:=h (k+1) (by omega)
   omega
end Sim
namespace Sim
open Go Go.Proofs
attribute [local congr] Ap Aq Al AC As Ar Av
abbrev pt (y:List (List Int)) (t k:Nat):Int:=(y.getD t []).getD k 0
def shA (hn:Int) (d:Dem) (y:List (List Int)):Prop:=(y.length:Int)=d.2.2.2.2-d.2.2.2.1+1∧∀l∈y,(l.length:Int)=hn
instance {hn:Int} {d:Dem} {y:List (List Int)}:Decidable (shA hn d y):=inferInstanceAs (Decidable (_∧_))
def shB (hn:Int) (y:List (List Int)):Prop:=∀t,t<y.length→∀k,k<hn.toNat→0≤pt y t k∧pt y t k≤536870912
instance {hn:Int} {y:List (List Int)}:Decidable (shB hn y):=inferInstanceAs (Decidable (∀t,t<y.length→_))
def shC (hn:Int) (y:List (List Int)):Prop:=∀t,t<y.length-1→∀k,k<hn.toNat→pt y (t+1) k≤pt y t k
instance {hn:Int} {y:List (List Int)}:Decidable (shC hn y):=inferInstanceAs (Decidable (∀t,t<y.length-1→_))
def shE (hn:Int) (d:Dem) (y:List (List Int)):Int:=if ¬shA hn d y then 1 else if ¬shB hn y then 3 else if ¬shC hn y then 22 else 0
def D4 (hn:Int) (ls:List Lnk) (us:List Snd) (d:Dem) (y:List (List Int)):Int:=if CH hn ls us d≠0 then CH hn ls us d else shE hn d y
def Wv (ls:List Lnk) (us:List Snd) (d:Dem) (y:List (List Int)) (t k:Nat):Int :=
 min d.2.2.1 (lfM ls us (k:Nat) (d.2.2.2.1+(t:Int)))*max 0 (pt y (t+1) (ls.getD k dL).2.1.toNat-pt y t (ls.getD k dL).1.toNat-EC ls (k:Nat) (d.2.2.2.1+(t:Int)))
def Jg (ls:List Lnk) (us:List Snd) (d:Dem) (y:List (List Int)) (n:Nat):Int :=
 d.2.2.1 * (pt y (An d) d.2.1.toNat-pt y 0 d.1.toNat)-Aj (fun i=>Wv ls us d y (i / ls.length) (i % ls.length)) n
def GC (hn:Int) (ls:List Lnk) (us:List Snd) (d:Dem) (y:List (List Int)):Int:=if D4 hn ls us d y≠0 then 0 else Jg ls us d y (An d*ls.length)
theorem pck_zero {hn:Int} {ls:List Lnk} {us:List Snd} {d:Dem}:CH hn ls us d=0↔Dw hn ls us d=0∧d.2.2.1≤4194304:=by
 unfold CH
 constructor
 ·intro h
  split at h
  ·contradiction
  ·rename_i c
   split at h
   ·cases h
   ·exact ⟨Classical.not_not.1 c,by omega⟩
 ·rintro ⟨h1,h2⟩
  rw [if_neg (fun g=>g h1),if_neg (by omega)]
theorem QY {ls:List Lnk} {us:List Snd} {r:Int} {k t:Nat}:(EN ls us r k t)[1]?=some (I (r+(t:Int))):=rfl
theorem QZ {ls:List Lnk} {us:List Snd} {r:Int} {k t:Nat}:(EN ls us r k t)[2]?=some (I (ls.getD k dL).1):=by simp[EN,lkC]
theorem Q0 {ls:List Lnk} {us:List Snd} {r:Int} {k t:Nat}:(EN ls us r k t)[3]?=some (I (ls.getD k dL).2.1):=by simp[EN,lkC]
theorem LI {ls:List Lnk} {us:List Snd} {r:Int} {k t:Nat}:(EN ls us r k t)[52]?=some (I (lfM ls us (k:Nat) (r+(t:Int)))):=by
 unfold EN
 rw [List.getElem?_cons_succ,List.getElem?_cons_succ,List.getElem?_append_right (by rw[BG];omega),BG];rfl
theorem XZ {ls:List Lnk} {us:List Snd} {r:Int} {k t:Nat}:(EN ls us r k t)[53]?=some (I (EC ls (k:Nat) (r+(t:Int)))):=by
 unfold EN
 rw [List.getElem?_cons_succ,List.getElem?_cons_succ,List.getElem?_append_right (by rw[BG];omega),BG];rfl
theorem Cb {ls:List Lnk} {us:List Snd} {r:Int} {k t:Nat}:(EN ls us r k t).length=54:=by simp[EN,BG]
theorem LJ {ls:List Lnk} {us:List Snd} {r:Int} {D i:Nat} {y:List PV} (h:(Jf ls us r D)[i]?=some y):i<D*ls.length∧y = [zK ls us r (i % ls.length) (i / ls.length)]:=by
 unfold Jf at h
 rw [List.getElem?_map,Option.map_eq_some_iff]at h
 obtain ⟨x,h1,h2⟩:=h
 obtain ⟨hi,rfl⟩:=List.getElem?_eq_some_iff.1 h1
 rw [List.length_range]at hi
 rw [List.getElem_range]at h2
 exact ⟨hi,h2.symm⟩
theorem Kg {ls:List Lnk} {us:List Snd} {r:Int} {D:Nat}:(Jf ls us r D).length=D*ls.length:=by unfold Jf;rw[List.length_map,List.length_range]
theorem Kh {ls:List Lnk} {us:List Snd} {r:Int} {D:Nat}:∀y∈Jf ls us r D,y.length=1:=fun y hy=>by
 obtain ⟨i,_,rfl⟩:=List.mem_map.1 hy
 rfl
theorem X0 {hn:Int} {ls:List Lnk} {us:List Snd} {d:Dem} {y:List (List Int)} (hf:Bz hn ls us=0) (hB:shB hn y) (hb:0≤d.2.2.1∧d.2.2.1≤4194304) (hr:0≤d.2.2.2.1) {t k:Nat} (ht:t+1<y.length) (hk:k<ls.length) :
  0 ≤ lfM ls us (k:Nat) (d.2.2.2.1+(t:Int))∧lfM ls us (k:Nat) (d.2.2.2.1+(t:Int))≤1073741824∧0≤EC ls (k:Nat) (d.2.2.2.1+(t:Int))∧EC ls (k:Nat) (d.2.2.2.1+(t:Int))≤1000000 ∧
  0 ≤ Wv ls us d y t k∧Wv ls us d y t k≤2251799813685248:=by
 obtain ⟨ok,_⟩:=B8 hf
 have hend:=ok.net.ends k hk
 have q1:=Fg hf (k:=(k:Int)) (t:=d.2.2.2.1+(t:Int)) ⟨by omega,by omega⟩
 have q2:=Ej ok.net (link:=(k:Int)) (tick:=d.2.2.2.1+(t:Int)) (by omega) (by omega)
 have q3:=JZ ok.net (link:=(k:Int)) (tick:=d.2.2.2.1+(t:Int)) (by omega) (by omega)
 have a:=hB (t+1) ht (ls.getD k dL).2.1.toNat (by omega)
 have b:=hB t (by omega) (ls.getD k dL).1.toNat (by omega)
 unfold Wv
 have hl:lfM ls us (k:Nat) (d.2.2.2.1+(t:Int))=Cp ls (k:Int) (d.2.2.2.1+(t:Int))-A9 us (k:Int) (d.2.2.2.1+(t:Int)) us.length:=rfl
 generalize lfM ls us (k:Nat) (d.2.2.2.1+(t:Int))=lf at *
 generalize EC ls (k:Nat) (d.2.2.2.1+(t:Int))=pr at *
 generalize pt y (t+1) (ls.getD k dL).2.1.toNat=p at *
 generalize pt y t (ls.getD k dL).1.toNat=q at *
 refine ⟨by omega,by omega,by omega,by omega,Int.mul_nonneg (by omega) (by omega),?_⟩
 exact Int.le_trans (Int.mul_le_mul (show min d.2.2.1 lf≤4194304 by omega) (show max 0 (p-q-pr)≤536870912 by omega) (by omega) (by decide)) (by decide)
theorem HM {f:Nat→Int} {B:Int}:∀ {n:Nat},(∀i,i<n→0≤f i∧f i≤B)→0≤Aj f n∧Aj f n≤B*(n:Int)
 | 0,_=>⟨Int.le_refl _,by simp[Aj]⟩
 | n+1,h=>by
  have ih:=HM (f:=f) (B:=B) (n:=n) fun i hi=>h i (by omega)
  have h1:=h n (by omega)
  have e:B*((n+1:Nat):Int)=B*(n:Int)+B:=by rw[show ((n+1:Nat):Int)=(n:Int)+1 by omega,Int.mul_add,Int.mul_one]
  rw [Aj,e]
  omega
theorem cE {ls:List Lnk} {us:List Snd} {d:Dem} {y:List (List Int)} {n:Nat}:Jg ls us d y (n+1)=Jg ls us d y n-Wv ls us d y (n / ls.length) (n % ls.length):=by
 unfold Jg
 rw [Aj];omega
theorem Nh {hn:Int} {ls:List Lnk} {us:List Snd} {d:Dem} {y:List (List Int)} (hf:Bz hn ls us=0) (hB:shB hn y) (hb:0≤d.2.2.1∧d.2.2.1≤4194304) (hr:0≤d.2.2.2.1) (hD:An d≤32) (hyl:y.length=An d+1) (ha:0≤d.1∧d.1<hn) (hc:0≤d.2.1∧d.2.1<hn) {n:Nat} (hn':n≤An d*ls.length) :
  -4611686018427387904 ≤ Jg ls us d y n∧Jg ls us d y n≤2251799813685248:=by
 obtain ⟨ok,_⟩:=B8 hf
 have hl:=ok.net.len
 have h1:=HM (f:=fun i=>Wv ls us d y (i / ls.length) (i % ls.length)) (B:=2251799813685248) (n:=n) fun i hi=>by
  obtain ⟨h1,h2⟩:=TN.idx_lt (i:=i) (Nat.lt_of_lt_of_le hi hn')
  have := X0 hf hB hb hr (t:=i / ls.length) (k:=i % ls.length) (by omega) h2
  exact ⟨this.2.2.2.2.1,this.2.2.2.2.2⟩
 have h2:=hB (An d) (by omega) d.2.1.toNat (by omega)
 have h3:=hB 0 (by omega) d.1.toNat (by omega)
 have hn2:n≤1920:=Nat.le_trans hn' (Nat.le_trans (Nat.mul_le_mul hD hl) (by decide))
 unfold Jg
 generalize pt y (An d) d.2.1.toNat=p at *
 generalize pt y 0 d.1.toNat=q at *
 have m1:d.2.2.1*(p-q)≤2251799813685248:=by
  have := Int.mul_le_mul_of_nonneg_left (show p-q≤536870912 by omega) hb.1
  omega
 have m2 : -2251799813685248≤d.2.2.1*(p-q):=by
  have := Int.mul_le_mul_of_nonneg_left (show -536870912≤p-q by omega) hb.1
  omega
 generalize d.2.2.1*(p-q)=m at *
 omega
end Sim
