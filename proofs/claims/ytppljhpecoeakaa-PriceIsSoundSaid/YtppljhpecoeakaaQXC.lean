/- What functions of this seat compute, by values: contracts (lemmas of the statement's proof, under the conditions that each names). -/
import Derived.Test.YtppljhpecoeakaaQA
import Derived.Test.YtppljhpecoeakaaQC
set_option maxRecDepth 10000
set_option maxHeartbeats 4000000
set_option linter.unusedVariables false
set_option linter.unusedSimpArgs false
namespace Sim
open Go Go.Proofs
attribute [local congr] Aq Ar Al AG At As Az
def lnP (hn:Int) (l:List Int):Bool := !decide ((l.length:Int)=hn)
noncomputable def Np:(Int)×(List Lnk)×(List Snd)×(Dem)×(List Int)→List PV:=fun (hn,ls,us,d,l) => [ints l,.vptr [I hn,Ax ls,Av us,I d.1,I d.2.1,I d.2.2.1,I d.2.2.2.1,I d.2.2.2.2] 0]
noncomputable def pJ:(Int)×(List Lnk)×(List Snd)×(Dem)×(List Int)→PV:=fun (hn,ls,us,d,l)=>B (lnP hn l)
def pK:(Int)×(List Lnk)×(List Snd)×(Dem)×(List Int)→Prop:=fun (hn,ls,us,d,l)=>True
noncomputable def e_bnd1:Nat×Ent:=(33,.v (Ah Np pJ pK))
theorem Afq:∀i j,Np i=Np j→i=j:=by
 rintro ⟨hn₁,ls₁,us₁,d₁,l₁⟩ ⟨hn₂,ls₂,us₂,d₂,l₂⟩ h
 simp only[Np,List.cons.injEq,and_true,PV.lits.injEq,PV.int.injEq,PV.vptr.injEq,true_and,DZ,AM,AF]at h
 simp [Prod.ext_iff,h] <;> omega
theorem pL (hn:Int) (ls:List Lnk) (us:List Snd) (d:Dem) (l:List Int):Ah Np pJ pK [ints l,.vptr [I hn,Ax ls,Av us,I d.1,I d.2.1,I d.2.2.1,I d.2.2.2.1,I d.2.2.2.2] 0]=some (B (lnP hn l)):=AC Afq (i:=(hn,ls,us,d,l)) trivial
def pM:Prop:=∀(hn:Int) (ls:List Lnk) (us:List Snd) (d:Dem) (l:List Int) ,VC Try.prog 33 [ints l,.vptr [I hn,Ax ls,Av us,I d.1,I d.2.1,I d.2.2.1,I d.2.2.2.1,I d.2.2.2.2] 0] (B (lnP hn l))
def pN:Prop:=AL Try.prog e_bnd1.1 e_bnd1.2
theorem Afr (c:pM):pN:=Ap fun⟨hn,ls,us,d,l⟩ h=>c hn ls us d l
theorem Afs:pM:=by
 intro hn ls us d l
 refine A3 AP (l := []) (An) [] []  Try.func33 rfl (by decide +kernel) (N:=10) rfl (by simp) rfl (by kernel_rfl) fun hs=>?_
 simp only[AJ,PV.small,List.length_map,and_true,true_and]at hs
 unfold lnP
 by_cases h:(l.length:Int)=hn
 ·simp +contextual (maxSteps:=4000000) only[↓bdD,bdP,Nat.reduceLT,Nat.reduceBEq,Ai,Nat.reduceAdd,st0,↓reduceIte,Try.f33,ty3,Au,Bd,A4,h]
 ·simp +contextual (maxSteps:=4000000) only[↓bdD,bdP,Nat.reduceLT,Nat.reduceBEq,Ai,Nat.reduceAdd,st0,↓reduceIte,Try.f33,ty3,Au,Bd,A4,h]
theorem Aft:pN:=Afr Afs
def IA (hn:Int) (y:List (List Int)):Int:=if y.findIdx (lnP hn)<y.length then (y.findIdx (lnP hn):Int)else -1
theorem Aaw {hn:Int} {y:List (List Int)} {k:Nat} (hk:k<y.length) (h:lnP hn (y.getD k [])=true) (g:∀j,j<k→lnP hn (y.getD j [])=false):IA hn y=k:=by
 have e:y.findIdx (lnP hn)=k:=by
  rw [List.findIdx_eq hk]
  refine ⟨?_,fun j hj=>?_⟩
  ·have : y.getD k []=y[k]:=by simp[hk]
   rw [←this];exact h
  ·have hjl:j<y.length:=by omega
   have : y.getD j []=y[j]:=by simp[hjl]
   rw [←this];exact g j hj
 unfold IA
 rw [e,if_pos hk]
theorem pO {hn:Int} {y:List (List Int)} (g:∀j,j<y.length→lnP hn (y.getD j [])=false):IA hn y = -1:=by
 have e:y.findIdx (lnP hn)=y.length:=by
  rw [List.findIdx_eq_length]
  intro x hx
  obtain ⟨j,hj,rfl⟩:=List.getElem_of_mem hx
  have : y.getD j []=y[j]:=by simp[hj]
  rw [←this];exact g j hj
 unfold IA
 rw [e,if_neg (by omega)]
noncomputable def Nq:(Int)×(List Lnk)×(List Snd)×(Dem)×(List (List Int))→List PV:=fun (hn,ls,us,d,y) => [Dl y,.func (.func 33) [] [.vptr [I hn,Ax ls,Av us,I d.1,I d.2.1,I d.2.2.1,I d.2.2.2.1,I d.2.2.2.2] 0]]
noncomputable def pP:(Int)×(List Lnk)×(List Snd)×(Dem)×(List (List Int))→PV:=fun (hn,ls,us,d,y)=>I (IA hn y)
def pQ:(Int)×(List Lnk)×(List Snd)×(Dem)×(List (List Int))→Prop:=fun (hn,ls,us,d,y)=>True
noncomputable def e_idxR:Nat×Ent:=(52,.v (Ah Nq pP pQ))
theorem Afu:∀i j,Nq i=Nq j→i=j:=by
 rintro ⟨hn₁,ls₁,us₁,d₁,y₁⟩ ⟨hn₂,ls₂,us₂,d₂,y₂⟩ h
 simp only[Nq,List.cons.injEq,and_true,PV.lits.injEq,PV.int.injEq,PV.func.injEq,PV.vptr.injEq,true_and,AM,AF,HT]at h
 simp [Prod.ext_iff,h] <;> omega
theorem pR (hn:Int) (ls:List Lnk) (us:List Snd) (d:Dem) (y:List (List Int)):Ah Nq pP pQ [Dl y,.func (.func 33) [] [.vptr [I hn,Ax ls,Av us,I d.1,I d.2.1,I d.2.2.1,I d.2.2.2.1,I d.2.2.2.2] 0]]=some (I (IA hn y)):=AC Afu (i:=(hn,ls,us,d,y)) trivial
def pS:Prop:=∀(hn:Int) (ls:List Lnk) (us:List Snd) (d:Dem) (y:List (List Int)) ,VC Try.prog 52 [Dl y,.func (.func 33) [] [.vptr [I hn,Ax ls,Av us,I d.1,I d.2.1,I d.2.2.1,I d.2.2.2.1,I d.2.2.2.2] 0]] (I (IA hn y))
def pT:Prop:=AL Try.prog e_idxR.1 e_idxR.2
theorem Afv (c:pS):pT:=Ap fun⟨hn,ls,us,d,y⟩ h=>c hn ls us d y
theorem Afw:pS:=by
 intro hn ls us d y
 refine A3 AP (l := [e_bnd1]) ((Ad Aft An)) [] []  Try.func52 rfl (by decide +kernel) (N:=19) rfl (by simp) rfl (by kernel_rfl) fun hs=>?_
 simp only[AJ,PV.small,List.length_map,and_true]at hs
 have hsl:=hs.1
 generalize hr:IA hn y=r
 simp +contextual (maxSteps:=4000000) only[↓bdD,bdP,Nat.reduceLT,Nat.reduceBEq,Nat.reduceAdd,st0,↓reduceIte,e_bnd1,Try.f52,Bk]
 refine Ay [4,5,8,9,10,11,12,13,14,15,16,17,18] y.length (fun k ρ st'=>ρ 8=I k∧∀j,j<k→lnP hn (y.getD j [])=false) (.refl _) ?_ ?_
 ·simp +contextual (maxSteps:=4000000) only[↓bdD,bdP]
  exact fun j hj=>absurd hj (by omega)
 rintro k ρ ⟨ob,M⟩ hk ⟨h8,hI⟩
 by_cases hlt:k<y.length
 ·have hwk:IntKind.i64.wrap ((k:Int)+1)=((k+1:Nat):Int):=by rw[Aj (by omega) (by omega)];omega
  cases hp:lnP hn (y.getD k [])
  ·simp +contextual (maxSteps:=4000000) only[↓bdD,bdP,Nat.reduceLT,Nat.reduceBEq,Nat.reduceAdd,↓reduceIte,pL,Ac,Ab,CP,Bk,A4,h8,hlt,hwk,hp]
   intro j hj
   by_cases e:j=k
   ·rw [e];exact hp
   ·exact hI j (by omega)
  ·have := Aaw hlt hp hI
   rw [hr]at this
   simp +contextual (maxSteps:=4000000) only[↓bdD,bdP,Nat.reduceLT,Nat.reduceBEq,Ai,Nat.reduceAdd,↓reduceIte,pL,Ac,Ab,CP,Bk,A4,h8,hlt,hp,this]
 ·have e:k=y.length:=by omega
  subst e
  have := pO hI
  rw [hr]at this
  simp +contextual (maxSteps:=4000000) only[↓bdD,bdP,Nat.reduceLT,Nat.reduceBEq,Ai,↓reduceIte,h8,this]
theorem Afx:pT:=Afv Afw
noncomputable def Nr:(Int)×(List Lnk)×(List Snd)×(Dem)×(List (List Int))→List PV:=fun (hn,ls,us,d,y) => [Dl y,.func (.func 33) [] [.vptr [I hn,Ax ls,Av us,I d.1,I d.2.1,I d.2.2.1,I d.2.2.2.1,I d.2.2.2.2] 0]]
noncomputable def pU:(Int)×(List Lnk)×(List Snd)×(Dem)×(List (List Int))→PV:=fun (hn,ls,us,d,y)=>B (decide (0≤IA hn y))
def pV:(Int)×(List Lnk)×(List Snd)×(Dem)×(List (List Int))→Prop:=fun (hn,ls,us,d,y)=>True
noncomputable def e_cntR:Nat×Ent:=(32,.v (Ah Nr pU pV))
theorem Afy:∀i j,Nr i=Nr j→i=j:=by
 rintro ⟨hn₁,ls₁,us₁,d₁,y₁⟩ ⟨hn₂,ls₂,us₂,d₂,y₂⟩ h
 simp only[Nr,List.cons.injEq,and_true,PV.lits.injEq,PV.int.injEq,PV.func.injEq,PV.vptr.injEq,true_and,AM,AF,HT]at h
 simp [Prod.ext_iff,h] <;> omega
theorem pW (hn:Int) (ls:List Lnk) (us:List Snd) (d:Dem) (y:List (List Int)):Ah Nr pU pV [Dl y,.func (.func 33) [] [.vptr [I hn,Ax ls,Av us,I d.1,I d.2.1,I d.2.2.1,I d.2.2.2.1,I d.2.2.2.2] 0]]=some (B (decide (0≤IA hn y))):=AC Afy (i:=(hn,ls,us,d,y)) trivial
def pX:Prop:=∀(hn:Int) (ls:List Lnk) (us:List Snd) (d:Dem) (y:List (List Int)) ,VC Try.prog 32 [Dl y,.func (.func 33) [] [.vptr [I hn,Ax ls,Av us,I d.1,I d.2.1,I d.2.2.1,I d.2.2.2.1,I d.2.2.2.2] 0]] (B (decide (0≤IA hn y)))
def pY:Prop:=AL Try.prog e_cntR.1 e_cntR.2
theorem Afz (c:pX):pY:=Ap fun⟨hn,ls,us,d,y⟩ h=>c hn ls us d y
theorem Af0:pX:=by
 intro hn ls us d y
 refine A3 AP (l := [e_idxR]) ((Ad Afx An)) [] []  Try.func32 rfl (by decide +kernel) (N:=9) rfl (by simp) rfl (by kernel_rfl) fun hs=>?_
 simp only[AJ,PV.small,List.length_map,and_true]at hs
 by_cases h:0≤IA hn y
 ·simp +contextual (maxSteps:=4000000) only[↓bdD,bdP,Nat.reduceLT,Nat.reduceBEq,Ai,Nat.reduceAdd,st0,↓reduceIte,e_idxR,pR,Ac,Ab,BL,Try.f32,Bk,xO,h]
 ·simp +contextual (maxSteps:=4000000) only[↓bdD,bdP,Nat.reduceLT,Nat.reduceBEq,Ai,Nat.reduceAdd,st0,↓reduceIte,e_idxR,pR,Ac,Ab,BL,Try.f32,Bk,xO,h]
theorem Af1:pY:=Afz Af0
theorem fnd_iff {hn:Int} {y:List (List Int)}:0≤IA hn y↔¬ ∀l∈y,(l.length:Int)=hn:=by
 have key:(∃x∈y,lnP hn x=true)↔¬ ∀l∈y,(l.length:Int)=hn:=by
  constructor
  ·rintro ⟨x,hx,h⟩ g
   have := g x hx
   simp [lnP,this]at h
  ·intro h
   refine Classical.byContradiction fun g=>h fun l hl=>?_
   refine Classical.byContradiction fun c=>g ⟨l,hl,?_⟩
   simp [lnP,c]
 rw [←key,←List.findIdx_lt_length]
 unfold IA
 constructor
 ·intro h
  split at h
  ·assumption
  ·omega
 ·intro h
  rw [if_pos h];omega
def mnT (l:List Int):Nat→Int
 | 0=>l.getD 0 0
 | k+1=>min (mnT l k) (l.getD k 0)
def mxT (l:List Int):Nat→Int
 | 0=>l.getD 0 0
 | k+1=>max (mxT l k) (l.getD k 0)
noncomputable def Uf:List Int→List PV:=fun l => [ints l]
noncomputable def Acb:List Int→PV:=fun l=>I (mnT l l.length)
def Acc:List Int→Prop:=fun l=>l ≠ []
noncomputable def e_mnR:Nat×Ent:=(34,.v (Ah Uf Acb Acc))
theorem Ajb:∀i j,Uf i=Uf j→i=j:=by
 rintro l₁ l₂ h
 simp only[Uf,List.cons.injEq,and_true,PV.lits.injEq,true_and,DZ]at h
 first | exact h | omega | (simp[Prod.ext_iff,h];done)
theorem pZ (l:List Int):Ah Uf Acb Acc [ints l]=@ite (Option (PV)) (l ≠ []) (Classical.propDecidable _) (some (I (mnT l l.length))) none:=BM Ajb l
def Acd:Prop:=∀(l:List Int) (h:l ≠ []) ,VC Try.prog 34 [ints l] (I (mnT l l.length))
def Ace:Prop:=AL Try.prog e_mnR.1 e_mnR.2
theorem Ajc (c:Acd):Ace:=Ap fun l h=>c l h
theorem Ajd:Acd:=by
 intro l hne
 refine A3 AP (l := []) (An) [] []  Try.func34 rfl (by decide +kernel) (N:=25) rfl (by simp) rfl (by kernel_rfl) fun hs=>?_
 simp only[AJ,PV.small,List.length_map,and_true]at hs
 have hp:0<l.length:=List.length_pos_iff.2 hne
 have hpi:¬(l.length:Int)<1:=by omega
 have hsl:=hs.1
 have h01:mnT l 1=l.getD 0 0:=by show min (l.getD 0 0) (l.getD 0 0)=_;omega
 generalize hr:mnT l l.length=r
 simp +contextual (maxSteps:=4000000) only[↓bdD,bdP,Nat.reduceLT,Nat.reduceBEq,Nat.reduceAdd,Int.reduceToNat,st0,↓reduceIte,Try.f34,ty3,A4,hp,hpi]
 refine Ay [3,4,12,13,14,15,16,17,18,19,20,21,22,23] (l.length-1) (fun k ρ st'=>ρ 4=I ((k+1:Nat):Int)∧ρ 3=I (mnT l (k+1))) (.refl _) ?_ ?_
 ·simp +contextual (maxSteps:=4000000) only[↓bdD,bdP,Nat.reduceBEq,h01]
 rintro k ρ ⟨ob,M⟩ hk ⟨h4,h3⟩
 by_cases hlt:k<l.length-1
 ·have hlt2:k+1<l.length:=by omega
  have hwk:IntKind.i64.wrap (((k+1:Nat):Int)+1)=((k+1+1:Nat):Int):=by rw[Aj (by omega) (by omega)];omega
  have hst:mnT l (k+1+1)=min (mnT l (k+1)) (l.getD (k+1) 0):=rfl
  simp +contextual (maxSteps:=4000000) only[↓bdD,bdP,Nat.reduceLT,Nat.reduceBEq,Nat.reduceAdd,↓reduceIte,ty3,A4,h4,h3,hlt2,hwk,hst]
  exact ⟨hlt,by split <;> omega⟩
 ·have e:k+1=l.length:=by omega
  rw [e]at h4 h3
  rw [hr]at h3
  simp +contextual (maxSteps:=4000000) only[↓bdD,bdP,Nat.reduceLT,Nat.reduceBEq,Ai,Nat.reduceAdd,↓reduceIte,A4,h4,h3]
theorem Aje:Ace:=Ajc Ajd
noncomputable def Ug:List Int→List PV:=fun l => [ints l]
noncomputable def Acf:List Int→PV:=fun l=>I (mxT l l.length)
def Acg:List Int→Prop:=fun l=>l ≠ []
noncomputable def e_mxR:Nat×Ent:=(35,.v (Ah Ug Acf Acg))
theorem Ajf:∀i j,Ug i=Ug j→i=j:=by
 rintro l₁ l₂ h
 simp only[Ug,List.cons.injEq,and_true,PV.lits.injEq,true_and,DZ]at h
 first | exact h | omega | (simp[Prod.ext_iff,h];done)
theorem Ach (l:List Int):Ah Ug Acf Acg [ints l]=@ite (Option (PV)) (l ≠ []) (Classical.propDecidable _) (some (I (mxT l l.length))) none:=BM Ajf l
def Aci:Prop:=∀(l:List Int) (h:l ≠ []) ,VC Try.prog 35 [ints l] (I (mxT l l.length))
def Acj:Prop:=AL Try.prog e_mxR.1 e_mxR.2
theorem Ajg (c:Aci):Acj:=Ap fun l h=>c l h
theorem Ajh:Aci:=by
 intro l hne
 refine A3 AP (l := []) (An) [] []  Try.func35 rfl (by decide +kernel) (N:=25) rfl (by simp) rfl (by kernel_rfl) fun hs=>?_
 simp only[AJ,PV.small,List.length_map,and_true]at hs
 have hp:0<l.length:=List.length_pos_iff.2 hne
 have hpi:¬(l.length:Int)<1:=by omega
 have hsl:=hs.1
 have h01:mxT l 1=l.getD 0 0:=by show max (l.getD 0 0) (l.getD 0 0)=_;omega
 generalize hr:mxT l l.length=r
 simp +contextual (maxSteps:=4000000) only[↓bdD,bdP,Nat.reduceLT,Nat.reduceBEq,Nat.reduceAdd,Int.reduceToNat,st0,↓reduceIte,Try.f35,ty3,A4,hp,hpi]
 refine Ay [3,4,12,13,14,15,16,17,18,19,20,21,22,23] (l.length-1) (fun k ρ st'=>ρ 4=I ((k+1:Nat):Int)∧ρ 3=I (mxT l (k+1))) (.refl _) ?_ ?_
 ·simp +contextual (maxSteps:=4000000) only[↓bdD,bdP,Nat.reduceBEq,h01]
 rintro k ρ ⟨ob,M⟩ hk ⟨h4,h3⟩
 by_cases hlt:k<l.length-1
 ·have hlt2:k+1<l.length:=by omega
  have hwk:IntKind.i64.wrap (((k+1:Nat):Int)+1)=((k+1+1:Nat):Int):=by rw[Aj (by omega) (by omega)];omega
  have hst:mxT l (k+1+1)=max (mxT l (k+1)) (l.getD (k+1) 0):=rfl
  simp +contextual (maxSteps:=4000000) only[↓bdD,bdP,Nat.reduceLT,Nat.reduceBEq,Nat.reduceAdd,↓reduceIte,ty3,A4,h4,h3,hlt2,hwk,hst]
  exact ⟨hlt,by split <;> omega⟩
 ·have e:k+1=l.length:=by omega
  rw [e]at h4 h3
  rw [hr]at h3
  simp +contextual (maxSteps:=4000000) only[↓bdD,bdP,Nat.reduceLT,Nat.reduceBEq,Ai,Nat.reduceAdd,↓reduceIte,A4,h4,h3]
theorem Aji:Acj:=Ajg Ajh
theorem qA {l:List Int} {b:Int}:∀ {k},k≤l.length→(0<k)→(b≤mnT l k↔∀j,j<k→b≤l.getD j 0)
 | 0,_,h=>absurd h (by omega)
 | 1,hk,_=>by
  show b≤min (l.getD 0 0) (l.getD 0 0)↔_
  constructor
  ·intro h j hj
   rw [show j=0 by omega];omega
  ·intro h;have:=h 0 (by omega);omega
 | k+2,hk,_=>by
  have ih:=qA (l:=l) (b:=b) (k:=k+1) (by omega) (by omega)
  show b≤min (mnT l (k+1)) (l.getD (k+1) 0)↔_
  constructor
  ·intro h j hj
   by_cases e:j=k+1
   ·rw [e];omega
   ·exact ih.1 (by omega) j (by omega)
  ·intro h
   have h1:=ih.2 fun j hj=>h j (by omega)
   have h2:=h (k+1) (by omega)
   omega
theorem qC {l:List Int} {b:Int}:∀ {k},k≤l.length→(0<k)→(mxT l k≤b↔∀j,j<k→l.getD j 0≤b)
 | 0,_,h=>absurd h (by omega)
 | 1,hk,_=>by
  show max (l.getD 0 0) (l.getD 0 0)≤b↔_
  constructor
  ·intro h j hj
   rw [show j=0 by omega];omega
  ·intro h;have:=h 0 (by omega);omega
 | k+2,hk,_=>by
  have ih:=qC (l:=l) (b:=b) (k:=k+1) (by omega) (by omega)
  show max (mxT l (k+1)) (l.getD (k+1) 0)≤b↔_
  constructor
  ·intro h j hj
   by_cases e:j=k+1
   ·rw [e];omega
   ·exact ih.1 (by omega) j (by omega)
  ·intro h
   have h1:=ih.2 fun j hj=>h j (by omega)
   have h2:=h (k+1) (by omega)
   omega
end Sim
namespace Sim
open Go Go.Proofs
attribute [local congr] Aq Ar Al AG At As Az
abbrev pt (y:List (List Int)) (t k:Nat):Int:=(y.getD t []).getD k 0
def shA (hn:Int) (d:Dem) (y:List (List Int)):Prop:=(y.length:Int)=d.2.2.2.2-d.2.2.2.1+1∧∀l∈y,(l.length:Int)=hn
instance {hn:Int} {d:Dem} {y:List (List Int)}:Decidable (shA hn d y):=inferInstanceAs (Decidable (_∧_))
def shB (hn:Int) (y:List (List Int)):Prop:=∀t,t<y.length→∀k,k<hn.toNat→0≤pt y t k∧pt y t k≤536870912
instance {hn:Int} {y:List (List Int)}:Decidable (shB hn y):=inferInstanceAs (Decidable (∀t,t<y.length→_))
def shC (hn:Int) (y:List (List Int)):Prop:=∀t,t<y.length-1→∀k,k<hn.toNat→pt y (t+1) k≤pt y t k
instance {hn:Int} {y:List (List Int)}:Decidable (shC hn y):=inferInstanceAs (Decidable (∀t,t<y.length-1→_))
def shE (hn:Int) (d:Dem) (y:List (List Int)):Int:=if ¬shA hn d y then 1 else if ¬shB hn y then 3 else if ¬shC hn y then 22 else 0
def Fs (hn:Int) (ls:List Lnk) (us:List Snd) (d:Dem) (y:List (List Int)):Int:=if CO hn ls us d≠0 then CO hn ls us d else shE hn d y
def WZ (ls:List Lnk) (us:List Snd) (d:Dem) (y:List (List Int)) (t k:Nat):Int :=
 min d.2.2.1 (lfM ls us (k:Nat) (d.2.2.2.1+(t:Int)))*max 0 (pt y (t+1) (ls.getD k dL).2.1.toNat-pt y t (ls.getD k dL).1.toNat-D3 ls (k:Nat) (d.2.2.2.1+(t:Int)))
def Jm (ls:List Lnk) (us:List Snd) (d:Dem) (y:List (List Int)) (n:Nat):Int :=
 d.2.2.1 * (pt y (Ao d) d.2.1.toNat-pt y 0 d.1.toNat)-Ag (fun i=>WZ ls us d y (i / ls.length) (i % ls.length)) n
def IB (hn:Int) (ls:List Lnk) (us:List Snd) (d:Dem) (y:List (List Int)):Int:=if Fs hn ls us d y≠0 then 0 else Jm ls us d y (Ao d*ls.length)
theorem pck_zero {hn:Int} {ls:List Lnk} {us:List Snd} {d:Dem}:CO hn ls us d=0↔Dp hn ls us d=0∧d.2.2.1≤4194304:=by
 unfold CO
 constructor
 ·intro h
  split at h
  ·contradiction
  ·rename_i c
   split at h
   ·cases h
   ·exact ⟨Classical.not_not.1 c,by omega⟩
 ·rintro ⟨h1,h2⟩
  rw [if_neg (fun g=>g h1),if_neg (by omega)]
theorem Rs {ls:List Lnk} {us:List Snd} {r:Int} {k t:Nat}:(ET ls us r k t)[1]?=some (I (r+(t:Int))):=rfl
theorem Rt {ls:List Lnk} {us:List Snd} {r:Int} {k t:Nat}:(ET ls us r k t)[2]?=some (I (ls.getD k dL).1):=by simp[ET,lkC]
theorem Ru {ls:List Lnk} {us:List Snd} {r:Int} {k t:Nat}:(ET ls us r k t)[3]?=some (I (ls.getD k dL).2.1):=by simp[ET,lkC]
theorem LQ {ls:List Lnk} {us:List Snd} {r:Int} {k t:Nat}:(ET ls us r k t)[52]?=some (I (lfM ls us (k:Nat) (r+(t:Int)))):=by
 unfold ET
 rw [List.getElem?_cons_succ,List.getElem?_cons_succ,List.getElem?_append_right (by rw[Bz];omega),Bz];rfl
theorem Ys {ls:List Lnk} {us:List Snd} {r:Int} {k t:Nat}:(ET ls us r k t)[53]?=some (I (D3 ls (k:Nat) (r+(t:Int)))):=by
 unfold ET
 rw [List.getElem?_cons_succ,List.getElem?_cons_succ,List.getElem?_append_right (by rw[Bz];omega),Bz];rfl
theorem Cc {ls:List Lnk} {us:List Snd} {r:Int} {k t:Nat}:(ET ls us r k t).length=54:=by simp[ET,Bz]
theorem LR {ls:List Lnk} {us:List Snd} {r:Int} {D i:Nat} {y:List PV} (h:(Jl ls us r D)[i]?=some y):i<D*ls.length∧y = [Aal ls us r (i % ls.length) (i / ls.length)]:=by
 unfold Jl at h
 rw [List.getElem?_map,Option.map_eq_some_iff]at h
 obtain ⟨x,h1,h2⟩:=h
 obtain ⟨hi,rfl⟩:=List.getElem?_eq_some_iff.1 h1
 rw [List.length_range]at hi
 rw [List.getElem_range]at h2
 exact ⟨hi,h2.symm⟩
theorem Kl {ls:List Lnk} {us:List Snd} {r:Int} {D:Nat}:(Jl ls us r D).length=D*ls.length:=by unfold Jl;rw[List.length_map,List.length_range]
theorem Km {ls:List Lnk} {us:List Snd} {r:Int} {D:Nat}:∀y∈Jl ls us r D,y.length=1:=fun y hy=>by
 obtain ⟨i,_,rfl⟩:=List.mem_map.1 hy
 rfl
theorem Yt {hn:Int} {ls:List Lnk} {us:List Snd} {d:Dem} {y:List (List Int)} (hf:Br hn ls us=0) (hB:shB hn y) (hb:0≤d.2.2.1∧d.2.2.1≤4194304) (hr:0≤d.2.2.2.1) {t k:Nat} (ht:t+1<y.length) (hk:k<ls.length) :
  0 ≤ lfM ls us (k:Nat) (d.2.2.2.1+(t:Int))∧lfM ls us (k:Nat) (d.2.2.2.1+(t:Int))≤1073741824∧0≤D3 ls (k:Nat) (d.2.2.2.1+(t:Int))∧D3 ls (k:Nat) (d.2.2.2.1+(t:Int))≤1000000 ∧
  0 ≤ WZ ls us d y t k∧WZ ls us d y t k≤2251799813685248:=by
 obtain ⟨ok,_⟩:=Cf hf
 have hend:=ok.net.ends k hk
 have q1:=Fl hf (k:=(k:Int)) (t:=d.2.2.2.1+(t:Int)) ⟨by omega,by omega⟩
 have q2:=ES ok.net (link:=(k:Int)) (tick:=d.2.2.2.1+(t:Int)) (by omega) (by omega)
 have q3:=If ok.net (link:=(k:Int)) (tick:=d.2.2.2.1+(t:Int)) (by omega) (by omega)
 have a:=hB (t+1) ht (ls.getD k dL).2.1.toNat (by omega)
 have b:=hB t (by omega) (ls.getD k dL).1.toNat (by omega)
 unfold WZ
 have hl:lfM ls us (k:Nat) (d.2.2.2.1+(t:Int))=CT ls (k:Int) (d.2.2.2.1+(t:Int))-Ba us (k:Int) (d.2.2.2.1+(t:Int)) us.length:=rfl
 generalize lfM ls us (k:Nat) (d.2.2.2.1+(t:Int))=lf at *
 generalize D3 ls (k:Nat) (d.2.2.2.1+(t:Int))=pr at *
 generalize pt y (t+1) (ls.getD k dL).2.1.toNat=p at *
 generalize pt y t (ls.getD k dL).1.toNat=q at *
 refine ⟨by omega,by omega,by omega,by omega,Int.mul_nonneg (by omega) (by omega),?_⟩
 exact Int.le_trans (Int.mul_le_mul (show min d.2.2.1 lf≤4194304 by omega) (show max 0 (p-q-pr)≤536870912 by omega) (by omega) (by decide)) (by decide)
theorem HU {f:Nat→Int} {B:Int}:∀ {n:Nat},(∀i,i<n→0≤f i∧f i≤B)→0≤Ag f n∧Ag f n≤B*(n:Int)
 | 0,_=>⟨Int.le_refl _,by simp[Ag]⟩
 | n+1,h=>by
  have ih:=HU (f:=f) (B:=B) (n:=n) fun i hi=>h i (by omega)
  have h1:=h n (by omega)
  have e:B*((n+1:Nat):Int)=B*(n:Int)+B:=by rw[show ((n+1:Nat):Int)=(n:Int)+1 by omega,Int.mul_add,Int.mul_one]
  rw [Ag,e]
  omega
theorem dQ {ls:List Lnk} {us:List Snd} {d:Dem} {y:List (List Int)} {n:Nat}:Jm ls us d y (n+1)=Jm ls us d y n-WZ ls us d y (n / ls.length) (n % ls.length):=by
 unfold Jm
 rw [Ag];omega
theorem Ns {hn:Int} {ls:List Lnk} {us:List Snd} {d:Dem} {y:List (List Int)} (hf:Br hn ls us=0) (hB:shB hn y) (hb:0≤d.2.2.1∧d.2.2.1≤4194304) (hr:0≤d.2.2.2.1) (hD:Ao d≤32) (hyl:y.length=Ao d+1) (ha:0≤d.1∧d.1<hn) (hc:0≤d.2.1∧d.2.1<hn) {n:Nat} (hn':n≤Ao d*ls.length) :
  -4611686018427387904 ≤ Jm ls us d y n∧Jm ls us d y n≤2251799813685248:=by
 obtain ⟨ok,_⟩:=Cf hf
 have hl:=ok.net.len
 have h1:=HU (f:=fun i=>WZ ls us d y (i / ls.length) (i % ls.length)) (B:=2251799813685248) (n:=n) fun i hi=>by
  obtain ⟨h1,h2⟩:=TN.idx_lt (i:=i) (Nat.lt_of_lt_of_le hi hn')
  have := Yt hf hB hb hr (t:=i / ls.length) (k:=i % ls.length) (by omega) h2
  exact ⟨this.2.2.2.2.1,this.2.2.2.2.2⟩
 have h2:=hB (Ao d) (by omega) d.2.1.toNat (by omega)
 have h3:=hB 0 (by omega) d.1.toNat (by omega)
 have hn2:n≤1920:=Nat.le_trans hn' (Nat.le_trans (Nat.mul_le_mul hD hl) (by decide))
 unfold Jm
 generalize pt y (Ao d) d.2.1.toNat=p at *
 generalize pt y 0 d.1.toNat=q at *
 have m1:d.2.2.1*(p-q)≤2251799813685248:=by
  have := Int.mul_le_mul_of_nonneg_left (show p-q≤536870912 by omega) hb.1
  omega
 have m2 : -2251799813685248≤d.2.2.1*(p-q):=by
  have := Int.mul_le_mul_of_nonneg_left (show -536870912≤p-q by omega) hb.1
  omega
 generalize d.2.2.1*(p-q)=m at *
 omega
end Sim
