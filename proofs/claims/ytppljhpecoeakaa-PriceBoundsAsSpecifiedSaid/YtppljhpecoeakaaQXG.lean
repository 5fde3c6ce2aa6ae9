/- What functions of this seat compute, by values: contracts (lemmas of the statement's proof, under the conditions that each names). -/
import Derived.Test.YtppljhpecoeakaaQXE
set_option maxRecDepth 10000
set_option maxHeartbeats 4000000
set_option linter.unusedVariables false
set_option linter.unusedSimpArgs false
namespace Sim
open Go Go.Proofs
attribute [local congr] Ap Aq Am AD As Ar Aw
def ovM (hn:Int) (ls:List Lnk) (us:List Snd) (s:Snd):Bool:=decide ((D3 hn ls us s.1 s.2.1).2≠0∨(D3 hn ls us s.1 s.2.1).1<s.2.2)
noncomputable def Nc:(Int)×(List Lnk)×(List Snd)×(Dem)×(Snd)→List PV:=fun (hn,ls,us,d,s) => [GR s,.vptr [I hn,Ax ls,AA us,I d.1,I d.2.1,I d.2.2.1,I d.2.2.2.1,I d.2.2.2.2] 0]
noncomputable def oZ:(Int)×(List Lnk)×(List Snd)×(Dem)×(Snd)→PV:=fun (hn,ls,us,d,s)=>B (ovM hn ls us s)
def pA:(Int)×(List Lnk)×(List Snd)×(Dem)×(Snd)→Prop:=fun (hn,ls,us,d,s)=>True
noncomputable def e_pos1:Nat×Ent:=(60,.v (Ah Nc oZ pA))
theorem Ae2:∀i j,Nc i=Nc j→i=j:=by
 rintro ⟨hn₁,ls₁,us₁,d₁,s₁⟩ ⟨hn₂,ls₂,us₂,d₂,s₂⟩ h
 simp only[Nc,List.cons.injEq,and_true,PV.lits.injEq,PV.int.injEq,PV.agg.injEq,PV.vptr.injEq,true_and,AN,AF]at h
 simp [Prod.ext_iff,h] <;> omega
theorem Ae3 (hn:Int) (ls:List Lnk) (us:List Snd) (d:Dem) (s:Snd):Ah Nc oZ pA [GR s,.vptr [I hn,Ax ls,AA us,I d.1,I d.2.1,I d.2.2.1,I d.2.2.2.1,I d.2.2.2.2] 0]=some (B (ovM hn ls us s)):=Ay Ae2 (i:=(hn,ls,us,d,s)) trivial
def pB:Prop:=∀(hn:Int) (ls:List Lnk) (us:List Snd) (d:Dem) (s:Snd) ,VC Try.prog 60 [GR s,.vptr [I hn,Ax ls,AA us,I d.1,I d.2.1,I d.2.2.1,I d.2.2.2.1,I d.2.2.2.2] 0] (B (ovM hn ls us s))
def pC:Prop:=AL Try.prog e_pos1.1 e_pos1.2
theorem Ae4 (c:pB):pC:=At fun⟨hn,ls,us,d,s⟩ h=>c hn ls us d s
theorem Ae5:pB:=by
 intro hn ls us d s
 refine A5 AO (l := [e_left]) ((Ad Adp Ao)) [] []  Try.func60 rfl (by decide +kernel) (N:=26) rfl (by simp) rfl (by kernel_rfl) fun hs=>?_
 simp only[AI,PV.small,List.length_map,and_true,true_and]at hs
 have sp:=Adm (hn:=hn) (ls:=ls) (l:=us) (link:=s.1) (tick:=s.2.1)
 unfold ovM
 generalize (D3 hn ls us s.1 s.2.1).2=e at *
 generalize (D3 hn ls us s.1 s.2.1).1=x at *
 dsimp only[Ax,AA]at sp
 by_cases h1:e=0
 ·by_cases h2:x<s.2.2
  ·rw [decide_eq_true (.inr h2)]
   simp +contextual (maxSteps:=4000000) only[↓bdD,bdP,Nat.reduceLT,Nat.reduceBEq,Ai,Nat.reduceAdd,Nat.reduceLeDiff,st0,↓reduceIte,e_left,Ac,Ab,Try.f60,ty3,Av,AJ,A8,BV,sp,h1,h2]
  ·rw [decide_eq_false (by omega)]
   simp +contextual (maxSteps:=4000000) only[↓bdD,bdP,Nat.reduceLT,Nat.reduceBEq,Ai,Nat.reduceAdd,Nat.reduceLeDiff,st0,↓reduceIte,e_left,Ac,Ab,Try.f60,ty3,Av,AJ,A8,BV,sp,h1,h2]
 ·rw [decide_eq_true (.inl h1)]
  simp +contextual (maxSteps:=4000000) only[↓bdD,bdP,Nat.reduceLT,Nat.reduceBEq,Ai,Nat.reduceAdd,Nat.reduceLeDiff,st0,↓reduceIte,e_left,Ac,Ab,Try.f60,ty3,Av,AJ,A8,BV,sp,h1]
theorem Ae6:pC:=Ae4 Ae5
def Iq {α:Type} (p:α→Bool) (y:List α):Int:=if y.findIdx p<y.length then (y.findIdx p:Int)else -1
theorem pE {α:Type} {p:α→Bool} {d:α} {y:List α} {k:Nat} (hk:k<y.length) (h:p (y.getD k d)=true) (g:∀j,j<k→p (y.getD j d)=false):Iq p y=k:=by
 have e:y.findIdx p=k:=by
  rw [List.findIdx_eq hk]
  refine ⟨?_,fun j hj=>?_⟩
  ·have : y.getD k d=y[k]:=by simp[hk]
   rw [←this];exact h
  ·have hjl:j<y.length:=by omega
   have : y.getD j d=y[j]:=by simp[hjl]
   rw [←this];exact g j hj
 unfold Iq
 rw [e,if_pos hk]
theorem cC {α:Type} {p:α→Bool} {d:α} {y:List α} (g:∀j,j<y.length→p (y.getD j d)=false):Iq p y = -1:=by
 have e:y.findIdx p=y.length:=by
  rw [List.findIdx_eq_length]
  intro x hx
  obtain ⟨j,hj,rfl⟩:=List.getElem_of_mem hx
  have : y.getD j d=y[j]:=by simp[hj]
  rw [←this];exact g j hj
 unfold Iq
 rw [e,if_neg (by omega)]
theorem pF {α:Type} {p:α→Bool} {y:List α}:0≤Iq p y↔∃x∈y,p x=true:=by
 rw [←List.findIdx_lt_length]
 unfold Iq
 constructor
 ·intro h
  split at h
  ·assumption
  ·omega
 ·intro h
  rw [if_pos h];omega
noncomputable def Nd:(Int)×(List Lnk)×(List Snd)×(Dem)×(List Snd)→List PV:=fun (hn,ls,us,d,l) => [AA l,.func (.func 60) [] [.vptr [I hn,Ax ls,AA us,I d.1,I d.2.1,I d.2.2.1,I d.2.2.2.1,I d.2.2.2.2] 0]]
noncomputable def pG:(Int)×(List Lnk)×(List Snd)×(Dem)×(List Snd)→PV:=fun (hn,ls,us,d,l)=>I (Iq (ovM hn ls us) l)
def pH:(Int)×(List Lnk)×(List Snd)×(Dem)×(List Snd)→Prop:=fun (hn,ls,us,d,l)=>True
noncomputable def e_idxS:Nat×Ent:=(72,.v (Ah Nd pG pH))
theorem Ae7:∀i j,Nd i=Nd j→i=j:=by
 rintro ⟨hn₁,ls₁,us₁,d₁,l₁⟩ ⟨hn₂,ls₂,us₂,d₂,l₂⟩ h
 simp only[Nd,List.cons.injEq,and_true,PV.lits.injEq,PV.int.injEq,PV.func.injEq,PV.vptr.injEq,true_and,AN,AF]at h
 simp [Prod.ext_iff,h] <;> omega
theorem pI (hn:Int) (ls:List Lnk) (us:List Snd) (d:Dem) (l:List Snd):Ah Nd pG pH [AA l,.func (.func 60) [] [.vptr [I hn,Ax ls,AA us,I d.1,I d.2.1,I d.2.2.1,I d.2.2.2.1,I d.2.2.2.2] 0]]=some (I (Iq (ovM hn ls us) l)):=Ay Ae7 (i:=(hn,ls,us,d,l)) trivial
def pJ:Prop:=∀(hn:Int) (ls:List Lnk) (us:List Snd) (d:Dem) (l:List Snd) ,VC Try.prog 72 [AA l,.func (.func 60) [] [.vptr [I hn,Ax ls,AA us,I d.1,I d.2.1,I d.2.2.1,I d.2.2.2.1,I d.2.2.2.2] 0]] (I (Iq (ovM hn ls us) l))
def pK:Prop:=AL Try.prog e_idxS.1 e_idxS.2
theorem Ae8 (c:pJ):pK:=At fun⟨hn,ls,us,d,l⟩ h=>c hn ls us d l
theorem Ae9:pJ:=by
 intro hn ls us d l
 refine A5 AO (l := [e_pos1]) ((Ad Ae6 Ao)) [] []  Try.func72 rfl (by decide +kernel) (N:=19) rfl (by simp) rfl (by kernel_rfl) fun hs=>?_
 simp only[AI,PV.small,List.length_map,and_true]at hs
 have hsl:=hs.1
 have sp:=fun s=>Ae3 (hn:=hn) (ls:=ls) (us:=us) (d:=d) (s:=s)
 generalize hr:Iq (ovM hn ls us) l=r
 simp +contextual (maxSteps:=4000000) only[↓bdD,bdP,Nat.reduceLT,Nat.reduceBEq,Nat.reduceAdd,st0,↓reduceIte,e_pos1,Try.f72,AJ]
 refine Au [4,5,8,9,10,11,12,13,14,15,16,17,18] l.length (fun k ρ st'=>ρ 8=I k∧∀j,j<k→ovM hn ls us (l.getD j dS)=false) (.refl _) ?_ ?_
 ·simp +contextual (maxSteps:=4000000) only[↓bdD,bdP]
  exact fun j hj=>absurd hj (by omega)
 rintro k ρ ⟨ob,M⟩ hk ⟨h8,hI⟩
 by_cases hlt:k<l.length
 ·have hwk:IntKind.i64.wrap ((k:Int)+1)=((k+1:Nat):Int):=by rw[Af (by omega) (by omega)];omega
  have spk:=sp (l.getD k dS)
  dsimp only[GR,Ax,AA]at spk
  cases hp:ovM hn ls us (l.getD k dS)
  ·rw [hp]at spk
   simp +contextual (maxSteps:=4000000) only[↓bdD,bdP,Nat.reduceLT,Nat.reduceBEq,Nat.reduceAdd,↓reduceIte,AH,Ac,Ab,AJ,BV,h8,hlt,hwk,spk]
   intro j hj
   by_cases e:j=k
   ·rw [e];exact hp
   ·exact hI j (by omega)
  ·have := pE hlt hp hI
   rw [hr]at this
   rw [hp]at spk
   simp +contextual (maxSteps:=4000000) only[↓bdD,bdP,Nat.reduceLT,Nat.reduceBEq,Ai,Nat.reduceAdd,↓reduceIte,AH,Ac,Ab,AJ,BV,h8,hlt,spk,this]
 ·have e:k=l.length:=by omega
  subst e
  have := cC hI
  rw [hr]at this
  simp +contextual (maxSteps:=4000000) only[↓bdD,bdP,Nat.reduceLT,Nat.reduceBEq,Ai,↓reduceIte,h8,this]
theorem Afa:pK:=Ae8 Ae9
noncomputable def Nf:(Int)×(List Lnk)×(List Snd)×(Dem)×(List Snd)→List PV:=fun (hn,ls,us,d,l) => [AA l,.func (.func 60) [] [.vptr [I hn,Ax ls,AA us,I d.1,I d.2.1,I d.2.2.1,I d.2.2.2.1,I d.2.2.2.2] 0]]
noncomputable def pL:(Int)×(List Lnk)×(List Snd)×(Dem)×(List Snd)→PV:=fun (hn,ls,us,d,l)=>B (decide (0≤Iq (ovM hn ls us) l))
def pM:(Int)×(List Lnk)×(List Snd)×(Dem)×(List Snd)→Prop:=fun (hn,ls,us,d,l)=>True
noncomputable def e_cntS:Nat×Ent:=(59,.v (Ah Nf pL pM))
theorem Afb:∀i j,Nf i=Nf j→i=j:=by
 rintro ⟨hn₁,ls₁,us₁,d₁,l₁⟩ ⟨hn₂,ls₂,us₂,d₂,l₂⟩ h
 simp only[Nf,List.cons.injEq,and_true,PV.lits.injEq,PV.int.injEq,PV.func.injEq,PV.vptr.injEq,true_and,AN,AF]at h
 simp [Prod.ext_iff,h] <;> omega
theorem pN (hn:Int) (ls:List Lnk) (us:List Snd) (d:Dem) (l:List Snd):Ah Nf pL pM [AA l,.func (.func 60) [] [.vptr [I hn,Ax ls,AA us,I d.1,I d.2.1,I d.2.2.1,I d.2.2.2.1,I d.2.2.2.2] 0]]=some (B (decide (0≤Iq (ovM hn ls us) l))):=Ay Afb (i:=(hn,ls,us,d,l)) trivial
def pO:Prop:=∀(hn:Int) (ls:List Lnk) (us:List Snd) (d:Dem) (l:List Snd) ,VC Try.prog 59 [AA l,.func (.func 60) [] [.vptr [I hn,Ax ls,AA us,I d.1,I d.2.1,I d.2.2.1,I d.2.2.2.1,I d.2.2.2.2] 0]] (B (decide (0≤Iq (ovM hn ls us) l)))
def pP:Prop:=AL Try.prog e_cntS.1 e_cntS.2
theorem Afc (c:pO):pP:=At fun⟨hn,ls,us,d,l⟩ h=>c hn ls us d l
theorem Afd:pO:=by
 intro hn ls us d y
 refine A5 AO (l := [e_idxS]) ((Ad Afa Ao)) [] []  Try.func59 rfl (by decide +kernel) (N:=9) rfl (by simp) rfl (by kernel_rfl) fun hs=>?_
 simp only[AI,PV.small,List.length_map,and_true]at hs
 by_cases h:0≤Iq (ovM hn ls us) y
 ·simp +contextual (maxSteps:=4000000) only[↓bdD,bdP,Nat.reduceLT,Nat.reduceBEq,Ai,Nat.reduceAdd,st0,↓reduceIte,e_idxS,pI,Ac,Ab,Try.f59,AJ,WT,h]
 ·simp +contextual (maxSteps:=4000000) only[↓bdD,bdP,Nat.reduceLT,Nat.reduceBEq,Ai,Nat.reduceAdd,st0,↓reduceIte,e_idxS,pI,Ac,Ab,Try.f59,AJ,WT,h]
theorem Afe:pP:=Afc Afd
def Wy (hn:Int) (ls:List Lnk) (us l:List Snd) (d:Dem):Prop:=BX hn ls l d=0∧∀i,i<l.length→(l.getD i dS).2.2≤lfM ls us (l.getD i dS).1 (l.getD i dS).2.1
instance {hn:Int} {ls:List Lnk} {us l:List Snd} {d:Dem}:Decidable (Wy hn ls us l d):=inferInstanceAs (Decidable (_∧_))
theorem Aff {hn:Int} {ls:List Lnk} {us l:List Snd} {d:Dem} (hf:Bz hn ls us=0) (h:BX hn ls l d=0):(¬0≤Iq (ovM hn ls us) l)↔∀i,i<l.length→(l.getD i dS).2.2≤lfM ls us (l.getD i dS).1 (l.getD i dS).2.1:=by
 obtain ⟨ok,_⟩:=B2 hf
 have okl:=(serves_iff.1 h).ok
 have hrz:=right_zero.2 ok
 have key:∀i,i<l.length→D3 hn ls us (l.getD i dS).1 (l.getD i dS).2.1=(lfM ls us (l.getD i dS).1 (l.getD i dS).2.1,0):=fun i hi=>by
  have e1:=okl.link i hi
  have e2:=okl.tick i hi
  unfold D3
  rw [if_neg (fun g=>g hrz),if_neg (by omega)];rfl
 rw [pF]
 constructor
 ·intro g i hi
  refine Classical.byContradiction fun c=>g ⟨l.getD i dS,?_,?_⟩
  ·rw [List.getD_eq_getElem?_getD,List.getElem?_eq_getElem hi];exact List.getElem_mem _
  ·unfold ovM
   rw [key i hi,decide_eq_true_eq]
   exact .inr (by dsimp only;omega)
 ·rintro g ⟨x,hx,hp⟩
  obtain ⟨i,hi,rfl⟩:=List.getElem_of_mem hx
  have e:l.getD i dS=l[i]:=by simp[hi]
  have := g i hi
  have k:=key i hi
  rw [e]at this k
  unfold ovM at hp
  rw [k,decide_eq_true_eq]at hp
  dsimp only at hp
  omega
noncomputable def Ng:(Int)×(List Lnk)×(List Snd)×(Dem)×(List Snd)→List PV:=fun (hn,ls,us,d,l) => [.agg [I hn,Ax ls,AA us,I d.1,I d.2.1,I d.2.2.1,I d.2.2.2.1,I d.2.2.2.2],AA l]
noncomputable def pQ:(Int)×(List Lnk)×(List Snd)×(Dem)×(List Snd)→PV:=fun (hn,ls,us,d,l)=>B (decide (Wy hn ls us l d))
def pR:(Int)×(List Lnk)×(List Snd)×(Dem)×(List Snd)→Prop:=fun (hn,ls,us,d,l)=>Bz hn ls us=0
noncomputable def e_ppos:Nat×Ent:=(40,.v (Ah Ng pQ pR))
theorem Afg:∀i j,Ng i=Ng j→i=j:=by
 rintro ⟨hn₁,ls₁,us₁,d₁,l₁⟩ ⟨hn₂,ls₂,us₂,d₂,l₂⟩ h
 simp only[Ng,List.cons.injEq,and_true,PV.lits.injEq,PV.int.injEq,PV.agg.injEq,true_and,AN,AF]at h
 simp [Prod.ext_iff,h] <;> omega
theorem Wz (hn:Int) (ls:List Lnk) (us:List Snd) (d:Dem) (l:List Snd):Ah Ng pQ pR [.agg [I hn,Ax ls,AA us,I d.1,I d.2.1,I d.2.2.1,I d.2.2.2.1,I d.2.2.2.2],AA l]=@ite (Option (PV)) (Bz hn ls us=0) (Classical.propDecidable _) (some (B (decide (Wy hn ls us l d)))) none:=BP Afg (hn,ls,us,d,l)
def pS:Prop:=∀(hn:Int) (ls:List Lnk) (us:List Snd) (d:Dem) (l:List Snd) (h:Bz hn ls us=0) ,VC Try.prog 40 [.agg [I hn,Ax ls,AA us,I d.1,I d.2.1,I d.2.2.1,I d.2.2.2.1,I d.2.2.2.2],AA l] (B (decide (Wy hn ls us l d)))
def pT:Prop:=AL Try.prog e_ppos.1 e_ppos.2
theorem Afh (c:pS):pT:=At fun⟨hn,ls,us,d,l⟩ h=>c hn ls us d l h
theorem Afi:pS:=by
 intro hn ls us d l hf
 refine A5 AO (l := [e_serves,e_cntS]) ((Ad mJ (Ad Afe Ao))) [] []  Try.func40 rfl (by decide +kernel) (N:=16) rfl (by simp) rfl (by kernel_rfl) fun hs=>?_
 simp only[AI,PV.small,List.length_map,and_true,true_and]at hs
 have sp:=mG (hn:=hn) (ls:=ls) (l:=l) (d:=d)
 dsimp only[Ax,AA,Cq]at sp
 by_cases h:BX hn ls l d=0
 ·have hov:=Aff (us:=us) hf h
  rw [h]at sp
  by_cases c:0≤Iq (ovM hn ls us) l
  ·rw [decide_eq_false (fun g=>(hov.2 g.2) c)]
   simp +contextual (maxSteps:=4000000) only[↓bdD,bdP,Nat.reduceLT,Nat.reduceBEq,Ai,Nat.reduceEqDiff,Nat.reduceAdd,Nat.reduceLeDiff,st0,↓reduceIte,e_serves,e_cntS,pN,Ac,Ab,Try.f40,Av,AJ,AV,A8,WT,sp,c]
  ·rw [decide_eq_true ⟨h,hov.1 c⟩]
   simp +contextual (maxSteps:=4000000) only[↓bdD,bdP,Nat.reduceLT,Nat.reduceBEq,Ai,Nat.reduceEqDiff,Nat.reduceAdd,Nat.reduceLeDiff,st0,↓reduceIte,e_serves,e_cntS,pN,Ac,Ab,Try.f40,Av,AJ,AV,A8,WT,sp,c]
 ·rw [decide_eq_false (fun g=>h g.1)]
  generalize BX hn ls l d=r at *
  simp +contextual (maxSteps:=4000000) only[↓bdD,bdP,Nat.reduceLT,Nat.reduceBEq,Ai,Nat.reduceAdd,Nat.reduceLeDiff,st0,↓reduceIte,e_serves,e_cntS,Ac,Ab,Try.f40,Av,AJ,AV,A8,sp,h]
theorem Afj:pT:=Afh Afi
end Sim
namespace Sim
open Go Go.Proofs
attribute [local congr] Ap Aq Am AD As Ar Aw
def QY (hn:Int) (ls:List Lnk) (us:List Snd) (d:Dem) (l:List Snd) (y:List (List Int)):Prop:=EJ hn ls us d y=0∧Wy hn ls us l d∧FO hn ls l≤FZ hn ls us d y
instance {hn:Int} {ls:List Lnk} {us:List Snd} {d:Dem} {l:List Snd} {y:List (List Int)}:Decidable (QY hn ls us d l y):=inferInstanceAs (Decidable (_∧_))
theorem zS {hn:Int} {ls:List Lnk} {us:List Snd} {d:Dem} {y:List (List Int)} (h:EJ hn ls us d y=0):CA hn ls us d=0∧shE hn d y=0:=by
 unfold EJ at h
 split at h
 ·contradiction
 ·rename_i c;exact⟨Classical.not_not.1 c,h⟩
noncomputable def F5:(Int)×(List Lnk)×(List Snd)×(Dem)×(List Snd)×(List (List Int))→List PV:=fun (hn,ls,us,d,l,y) => [.agg [I hn,Ax ls,AA us,I d.1,I d.2.1,I d.2.2.1,I d.2.2.2.1,I d.2.2.2.2],AA l,C8 y]
noncomputable def Pd:(Int)×(List Lnk)×(List Snd)×(Dem)×(List Snd)×(List (List Int))→PV:=fun (hn,ls,us,d,l,y)=>B (decide (QY hn ls us d l y))
def Pe:(Int)×(List Lnk)×(List Snd)×(Dem)×(List Snd)×(List (List Int))→Prop:=fun (hn,ls,us,d,l,y)=>True
noncomputable def e_paccept:Nat×Ent:=(17,.v (Ah F5 Pd Pe))
theorem cD:∀i j,F5 i=F5 j→i=j:=by
 rintro ⟨hn₁,ls₁,us₁,d₁,l₁,y₁⟩ ⟨hn₂,ls₂,us₂,d₂,l₂,y₂⟩ h
 simp only[F5,List.cons.injEq,and_true,PV.lits.injEq,PV.int.injEq,PV.agg.injEq,true_and,AN,AF,Fa]at h
 simp [Prod.ext_iff,h] <;> omega
theorem Ih (hn:Int) (ls:List Lnk) (us:List Snd) (d:Dem) (l:List Snd) (y:List (List Int)):Ah F5 Pd Pe [.agg [I hn,Ax ls,AA us,I d.1,I d.2.1,I d.2.2.1,I d.2.2.2.1,I d.2.2.2.2],AA l,C8 y]=some (B (decide (QY hn ls us d l y))):=Ay cD (i:=(hn,ls,us,d,l,y)) trivial
def Pf:Prop:=∀(hn:Int) (ls:List Lnk) (us:List Snd) (d:Dem) (l:List Snd) (y:List (List Int)) ,VC Try.prog 17 [.agg [I hn,Ax ls,AA us,I d.1,I d.2.1,I d.2.2.1,I d.2.2.2.1,I d.2.2.2.2],AA l,C8 y] (B (decide (QY hn ls us d l y)))
def Pg:Prop:=AL Try.prog e_paccept.1 e_paccept.2
theorem cE (c:Pf):Pg:=At fun⟨hn,ls,us,d,l,y⟩ h=>c hn ls us d l y
theorem cF:Pf:=by
 intro hn ls us d l y
 refine A5 AO (l := [e_pbound,e_ppos,e_cost]) ((Ad Nb (Ad Afj (Ad Adk Ao)))) [] []  Try.func17 rfl (by decide +kernel) (N:=38) rfl (by simp) rfl (by kernel_rfl) fun hs=>?_
 simp only[AI,PV.small,List.length_map,and_true,true_and]at hs
 have sp:=HK (hn:=hn) (ls:=ls) (us:=us) (d:=d) (y:=y)
 have sq:=Adh (hn:=hn) (ls:=ls) (l:=l)
 dsimp only[Ax,AA,Cq,C8]at sp sq
 by_cases h:EJ hn ls us d y=0
 case neg =>
  rw [decide_eq_false (fun g=>h g.1)]
  generalize EJ hn ls us d y=r at *
  simp +contextual (maxSteps:=4000000) only[↓bdD,bdP,Nat.reduceLT,Nat.reduceBEq,Ai,Nat.reduceAdd,st0,↓reduceIte,e_pbound,e_ppos,e_cost,Ac,Ab,Ci,Try.f17,A8,A7,sp,h]
 have hf:=(CP (pck_zero.1 (zS h).1).1).1
 rw [h]at sp
 by_cases c:Wy hn ls us l d
 case neg =>
  rw [decide_eq_false (fun g=>c g.2.1)]
  simp +contextual (maxSteps:=4000000) only[↓bdD,bdP,Nat.reduceLT,Nat.reduceBEq,Ai,Nat.reduceEqDiff,Nat.reduceAdd,st0,↓reduceIte,e_pbound,e_ppos,Wz,e_cost,Ac,Ab,Ci,Try.f17,AJ,A8,A7,sp,hf,c]
 have hz:=right_zero.2 (serves_iff.1 c.1).ok
 rw [hz]at sq
 by_cases e:FO hn ls l≤FZ hn ls us d y
 ·rw [decide_eq_true ⟨h,c,e⟩]
  simp +contextual (maxSteps:=4000000) only[↓bdD,bdP,Nat.reduceLT,Nat.reduceBEq,Ai,Nat.reduceEqDiff,Nat.reduceAdd,Nat.reduceLeDiff,st0,↓reduceIte,e_pbound,e_ppos,Wz,e_cost,Ac,Ab,Ci,Try.f17,Av,AJ,A8,A7,sp,sq,hf,c,e]
 ·rw [decide_eq_false (fun g=>e g.2.2)]
  simp +contextual (maxSteps:=4000000) only[↓bdD,bdP,Nat.reduceLT,Nat.reduceBEq,Ai,Nat.reduceEqDiff,Nat.reduceAdd,Nat.reduceLeDiff,st0,↓reduceIte,e_pbound,e_ppos,Wz,e_cost,Ac,Ab,Ci,Try.f17,Av,AJ,A8,A7,sp,sq,hf,c,e]
theorem cG:Pg:=cE cF
end Sim
