/- What functions of this seat compute, by values: contracts (lemmas of the statement's proof, under the conditions that each names). -/
import Derived.Test.YtppljhpecoeakaaQXE
set_option maxRecDepth 10000
set_option maxHeartbeats 4000000
set_option linter.unusedVariables false
set_option linter.unusedSimpArgs false
namespace Sim
open Go Go.Proofs
attribute [local congr] As At Am AI Av Au AA
def ovM (hn:Int) (ls:List Lnk) (us:List Snd) (s:Snd):Bool:=decide ((D8 hn ls us s.1 s.2.1).2≠0∨(D8 hn ls us s.1 s.2.1).1<s.2.2)
noncomputable def No:(Int)×(List Lnk)×(List Snd)×(Dem)×(Snd)→List PV:=fun (hn,ls,us,d,s) => [G7 s,.vptr [I hn,Ax ls,Aw us,I d.1,I d.2.1,I d.2.2.1,I d.2.2.2.1,I d.2.2.2.2] 0]
noncomputable def qS:(Int)×(List Lnk)×(List Snd)×(Dem)×(Snd)→PV:=fun (hn,ls,us,d,s)=>B (ovM hn ls us s)
def qT:(Int)×(List Lnk)×(List Snd)×(Dem)×(Snd)→Prop:=fun (hn,ls,us,d,s)=>True
noncomputable def e_pos1:Nat×Ent:=(60,.v (Ag No qS qT))
theorem Agg:∀i j,No i=No j→i=j:=by
 rintro ⟨hn₁,ls₁,us₁,d₁,s₁⟩ ⟨hn₂,ls₂,us₂,d₂,s₂⟩ h
 simp only[No,List.cons.injEq,and_true,PV.lits.injEq,PV.int.injEq,PV.agg.injEq,PV.vptr.injEq,true_and,AK,AD]at h
 simp [Prod.ext_iff,h] <;> omega
theorem Agh (hn:Int) (ls:List Lnk) (us:List Snd) (d:Dem) (s:Snd):Ag No qS qT [G7 s,.vptr [I hn,Ax ls,Aw us,I d.1,I d.2.1,I d.2.2.1,I d.2.2.2.1,I d.2.2.2.2] 0]=some (B (ovM hn ls us s)):=Az Agg (i:=(hn,ls,us,d,s)) trivial
def qU:Prop:=∀(hn:Int) (ls:List Lnk) (us:List Snd) (d:Dem) (s:Snd) ,VC Try.prog 60 [G7 s,.vptr [I hn,Ax ls,Aw us,I d.1,I d.2.1,I d.2.2.1,I d.2.2.2.1,I d.2.2.2.2] 0] (B (ovM hn ls us s))
def qV:Prop:=AM Try.prog e_pos1.1 e_pos1.2
theorem Agi (c:qU):qV:=Ao fun⟨hn,ls,us,d,s⟩ h=>c hn ls us d s
theorem Agj:qU:=by
 intro hn ls us d s
 refine AW AO (l := [e_left]) ((Ad Aez An)) [] []  Try.func60 rfl (by decide +kernel) (N:=26) rfl (by simp) rfl (by kernel_rfl) fun hs=>?_
 simp only[AH,PV.small,List.length_map,and_true,true_and]at hs
 have sp:=Aew (hn:=hn) (ls:=ls) (l:=us) (link:=s.1) (tick:=s.2.1)
 unfold ovM
 generalize (D8 hn ls us s.1 s.2.1).2=e at *
 generalize (D8 hn ls us s.1 s.2.1).1=x at *
 dsimp only[Ax,Aw]at sp
 by_cases h1:e=0
 ·by_cases h2:x<s.2.2
  ·rw [decide_eq_true (.inr h2)]
   simp +contextual (maxSteps:=4000000) only[↓bdD,bdP,Nat.reduceLT,Nat.reduceBEq,Ai,Nat.reduceAdd,Nat.reduceLeDiff,st0,↓reduceIte,e_left,Ac,Ab,Try.f60,ty3,Aq,AB,A6,Bv,sp,h1,h2]
  ·rw [decide_eq_false (by omega)]
   simp +contextual (maxSteps:=4000000) only[↓bdD,bdP,Nat.reduceLT,Nat.reduceBEq,Ai,Nat.reduceAdd,Nat.reduceLeDiff,st0,↓reduceIte,e_left,Ac,Ab,Try.f60,ty3,Aq,AB,A6,Bv,sp,h1,h2]
 ·rw [decide_eq_true (.inl h1)]
  simp +contextual (maxSteps:=4000000) only[↓bdD,bdP,Nat.reduceLT,Nat.reduceBEq,Ai,Nat.reduceAdd,Nat.reduceLeDiff,st0,↓reduceIte,e_left,Ac,Ab,Try.f60,ty3,Aq,AB,A6,Bv,sp,h1]
theorem Agk:qV:=Agi Agj
def Iw {α:Type} (p:α→Bool) (y:List α):Int:=if y.findIdx p<y.length then (y.findIdx p:Int)else -1
theorem qW {α:Type} {p:α→Bool} {d:α} {y:List α} {k:Nat} (hk:k<y.length) (h:p (y.getD k d)=true) (g:∀j,j<k→p (y.getD j d)=false):Iw p y=k:=by
 have e:y.findIdx p=k:=by
  rw [List.findIdx_eq hk]
  refine ⟨?_,fun j hj=>?_⟩
  ·have : y.getD k d=y[k]:=by simp[hk]
   rw [←this];exact h
  ·have hjl:j<y.length:=by omega
   have : y.getD j d=y[j]:=by simp[hjl]
   rw [←this];exact g j hj
 unfold Iw
 rw [e,if_pos hk]
theorem dR {α:Type} {p:α→Bool} {d:α} {y:List α} (g:∀j,j<y.length→p (y.getD j d)=false):Iw p y = -1:=by
 have e:y.findIdx p=y.length:=by
  rw [List.findIdx_eq_length]
  intro x hx
  obtain ⟨j,hj,rfl⟩:=List.getElem_of_mem hx
  have : y.getD j d=y[j]:=by simp[hj]
  rw [←this];exact g j hj
 unfold Iw
 rw [e,if_neg (by omega)]
theorem qX {α:Type} {p:α→Bool} {y:List α}:0≤Iw p y↔∃x∈y,p x=true:=by
 rw [←List.findIdx_lt_length]
 unfold Iw
 constructor
 ·intro h
  split at h
  ·assumption
  ·omega
 ·intro h
  rw [if_pos h];omega
noncomputable def Np:(Int)×(List Lnk)×(List Snd)×(Dem)×(List Snd)→List PV:=fun (hn,ls,us,d,l) => [Aw l,.func (.func 60) [] [.vptr [I hn,Ax ls,Aw us,I d.1,I d.2.1,I d.2.2.1,I d.2.2.2.1,I d.2.2.2.2] 0]]
noncomputable def qY:(Int)×(List Lnk)×(List Snd)×(Dem)×(List Snd)→PV:=fun (hn,ls,us,d,l)=>I (Iw (ovM hn ls us) l)
def qZ:(Int)×(List Lnk)×(List Snd)×(Dem)×(List Snd)→Prop:=fun (hn,ls,us,d,l)=>True
noncomputable def e_idxS:Nat×Ent:=(72,.v (Ag Np qY qZ))
theorem Agl:∀i j,Np i=Np j→i=j:=by
 rintro ⟨hn₁,ls₁,us₁,d₁,l₁⟩ ⟨hn₂,ls₂,us₂,d₂,l₂⟩ h
 simp only[Np,List.cons.injEq,and_true,PV.lits.injEq,PV.int.injEq,PV.func.injEq,PV.vptr.injEq,true_and,AK,AD]at h
 simp [Prod.ext_iff,h] <;> omega
theorem rB (hn:Int) (ls:List Lnk) (us:List Snd) (d:Dem) (l:List Snd):Ag Np qY qZ [Aw l,.func (.func 60) [] [.vptr [I hn,Ax ls,Aw us,I d.1,I d.2.1,I d.2.2.1,I d.2.2.2.1,I d.2.2.2.2] 0]]=some (I (Iw (ovM hn ls us) l)):=Az Agl (i:=(hn,ls,us,d,l)) trivial
def rC:Prop:=∀(hn:Int) (ls:List Lnk) (us:List Snd) (d:Dem) (l:List Snd) ,VC Try.prog 72 [Aw l,.func (.func 60) [] [.vptr [I hn,Ax ls,Aw us,I d.1,I d.2.1,I d.2.2.1,I d.2.2.2.1,I d.2.2.2.2] 0]] (I (Iw (ovM hn ls us) l))
def rD:Prop:=AM Try.prog e_idxS.1 e_idxS.2
theorem Agm (c:rC):rD:=Ao fun⟨hn,ls,us,d,l⟩ h=>c hn ls us d l
theorem Agn:rC:=by
 intro hn ls us d l
 refine AW AO (l := [e_pos1]) ((Ad Agk An)) [] []  Try.func72 rfl (by decide +kernel) (N:=19) rfl (by simp) rfl (by kernel_rfl) fun hs=>?_
 simp only[AH,PV.small,List.length_map,and_true]at hs
 have hsl:=hs.1
 have sp:=fun s=>Agh (hn:=hn) (ls:=ls) (us:=us) (d:=d) (s:=s)
 generalize hr:Iw (ovM hn ls us) l=r
 simp +contextual (maxSteps:=4000000) only[↓bdD,bdP,Nat.reduceLT,Nat.reduceBEq,Nat.reduceAdd,st0,↓reduceIte,e_pos1,Try.f72,AB]
 refine Ar [4,5,8,9,10,11,12,13,14,15,16,17,18] l.length (fun k ρ st'=>ρ 8=I k∧∀j,j<k→ovM hn ls us (l.getD j dS)=false) (.refl _) ?_ ?_
 ·simp +contextual (maxSteps:=4000000) only[↓bdD,bdP]
  exact fun j hj=>absurd hj (by omega)
 rintro k ρ ⟨ob,M⟩ hk ⟨h8,hI⟩
 by_cases hlt:k<l.length
 ·have hwk:IntKind.i64.wrap ((k:Int)+1)=((k+1:Nat):Int):=by rw[Af (by omega) (by omega)];omega
  have spk:=sp (l.getD k dS)
  dsimp only[G7,Ax,Aw]at spk
  cases hp:ovM hn ls us (l.getD k dS)
  ·rw [hp]at spk
   simp +contextual (maxSteps:=4000000) only[↓bdD,bdP,Nat.reduceLT,Nat.reduceBEq,Nat.reduceAdd,↓reduceIte,Ay,Ac,Ab,AB,Bv,h8,hlt,hwk,spk]
   intro j hj
   by_cases e:j=k
   ·rw [e];exact hp
   ·exact hI j (by omega)
  ·have := qW hlt hp hI
   rw [hr]at this
   rw [hp]at spk
   simp +contextual (maxSteps:=4000000) only[↓bdD,bdP,Nat.reduceLT,Nat.reduceBEq,Ai,Nat.reduceAdd,↓reduceIte,Ay,Ac,Ab,AB,Bv,h8,hlt,spk,this]
 ·have e:k=l.length:=by omega
  subst e
  have := dR hI
  rw [hr]at this
  simp +contextual (maxSteps:=4000000) only[↓bdD,bdP,Nat.reduceLT,Nat.reduceBEq,Ai,↓reduceIte,h8,this]
theorem Ago:rD:=Agm Agn
noncomputable def Nq:(Int)×(List Lnk)×(List Snd)×(Dem)×(List Snd)→List PV:=fun (hn,ls,us,d,l) => [Aw l,.func (.func 60) [] [.vptr [I hn,Ax ls,Aw us,I d.1,I d.2.1,I d.2.2.1,I d.2.2.2.1,I d.2.2.2.2] 0]]
noncomputable def rF:(Int)×(List Lnk)×(List Snd)×(Dem)×(List Snd)→PV:=fun (hn,ls,us,d,l)=>B (decide (0≤Iw (ovM hn ls us) l))
def rG:(Int)×(List Lnk)×(List Snd)×(Dem)×(List Snd)→Prop:=fun (hn,ls,us,d,l)=>True
noncomputable def e_cntS:Nat×Ent:=(59,.v (Ag Nq rF rG))
theorem Agp:∀i j,Nq i=Nq j→i=j:=by
 rintro ⟨hn₁,ls₁,us₁,d₁,l₁⟩ ⟨hn₂,ls₂,us₂,d₂,l₂⟩ h
 simp only[Nq,List.cons.injEq,and_true,PV.lits.injEq,PV.int.injEq,PV.func.injEq,PV.vptr.injEq,true_and,AK,AD]at h
 simp [Prod.ext_iff,h] <;> omega
theorem rH (hn:Int) (ls:List Lnk) (us:List Snd) (d:Dem) (l:List Snd):Ag Nq rF rG [Aw l,.func (.func 60) [] [.vptr [I hn,Ax ls,Aw us,I d.1,I d.2.1,I d.2.2.1,I d.2.2.2.1,I d.2.2.2.2] 0]]=some (B (decide (0≤Iw (ovM hn ls us) l))):=Az Agp (i:=(hn,ls,us,d,l)) trivial
def rI:Prop:=∀(hn:Int) (ls:List Lnk) (us:List Snd) (d:Dem) (l:List Snd) ,VC Try.prog 59 [Aw l,.func (.func 60) [] [.vptr [I hn,Ax ls,Aw us,I d.1,I d.2.1,I d.2.2.1,I d.2.2.2.1,I d.2.2.2.2] 0]] (B (decide (0≤Iw (ovM hn ls us) l)))
def rJ:Prop:=AM Try.prog e_cntS.1 e_cntS.2
theorem Agq (c:rI):rJ:=Ao fun⟨hn,ls,us,d,l⟩ h=>c hn ls us d l
theorem Agr:rI:=by
 intro hn ls us d y
 refine AW AO (l := [e_idxS]) ((Ad Ago An)) [] []  Try.func59 rfl (by decide +kernel) (N:=9) rfl (by simp) rfl (by kernel_rfl) fun hs=>?_
 simp only[AH,PV.small,List.length_map,and_true]at hs
 by_cases h:0≤Iw (ovM hn ls us) y
 ·simp +contextual (maxSteps:=4000000) only[↓bdD,bdP,Nat.reduceLT,Nat.reduceBEq,Ai,Nat.reduceAdd,st0,↓reduceIte,e_idxS,rB,Ac,Ab,Try.f59,AB,Xg,h]
 ·simp +contextual (maxSteps:=4000000) only[↓bdD,bdP,Nat.reduceLT,Nat.reduceBEq,Ai,Nat.reduceAdd,st0,↓reduceIte,e_idxS,rB,Ac,Ab,Try.f59,AB,Xg,h]
theorem Ags:rJ:=Agq Agr
def Lz (hn:Int) (ls:List Lnk) (us l:List Snd) (d:Dem):Prop:=A9 hn ls l d=0∧∀i,i<l.length→(l.getD i dS).2.2≤lfM ls us (l.getD i dS).1 (l.getD i dS).2.1
instance {hn:Int} {ls:List Lnk} {us l:List Snd} {d:Dem}:Decidable (Lz hn ls us l d):=inferInstanceAs (Decidable (_∧_))
theorem Agt {hn:Int} {ls:List Lnk} {us l:List Snd} {d:Dem} (hf:Br hn ls us=0) (h:A9 hn ls l d=0):(¬0≤Iw (ovM hn ls us) l)↔∀i,i<l.length→(l.getD i dS).2.2≤lfM ls us (l.getD i dS).1 (l.getD i dS).2.1:=by
 obtain ⟨ok,_⟩:=B7 hf
 have okl:=(serves_iff.1 h).ok
 have hrz:=right_zero.2 ok
 have key:∀i,i<l.length→D8 hn ls us (l.getD i dS).1 (l.getD i dS).2.1=(lfM ls us (l.getD i dS).1 (l.getD i dS).2.1,0):=fun i hi=>by
  have e1:=okl.link i hi
  have e2:=okl.tick i hi
  unfold D8
  rw [if_neg (fun g=>g hrz),if_neg (by omega)];rfl
 rw [qX]
 constructor
 ·intro g i hi
  refine Classical.byContradiction fun c=>g ⟨l.getD i dS,?_,?_⟩
  ·rw [List.getD_eq_getElem?_getD,List.getElem?_eq_getElem hi];exact List.getElem_mem _
  ·unfold ovM
   rw [key i hi,decide_eq_true_eq]
   exact .inr (by dsimp only;omega)
 ·rintro g ⟨x,hx,hp⟩
  obtain ⟨i,hi,rfl⟩:=List.getElem_of_mem hx
  have e:l.getD i dS=l[i]:=by simp[hi]
  have := g i hi
  have k:=key i hi
  rw [e]at this k
  unfold ovM at hp
  rw [k,decide_eq_true_eq]at hp
  dsimp only at hp
  omega
noncomputable def Nr:(Int)×(List Lnk)×(List Snd)×(Dem)×(List Snd)→List PV:=fun (hn,ls,us,d,l) => [.agg [I hn,Ax ls,Aw us,I d.1,I d.2.1,I d.2.2.1,I d.2.2.2.1,I d.2.2.2.2],Aw l]
noncomputable def rK:(Int)×(List Lnk)×(List Snd)×(Dem)×(List Snd)→PV:=fun (hn,ls,us,d,l)=>B (decide (Lz hn ls us l d))
def rL:(Int)×(List Lnk)×(List Snd)×(Dem)×(List Snd)→Prop:=fun (hn,ls,us,d,l)=>Br hn ls us=0
noncomputable def e_ppos:Nat×Ent:=(40,.v (Ag Nr rK rL))
theorem Agu:∀i j,Nr i=Nr j→i=j:=by
 rintro ⟨hn₁,ls₁,us₁,d₁,l₁⟩ ⟨hn₂,ls₂,us₂,d₂,l₂⟩ h
 simp only[Nr,List.cons.injEq,and_true,PV.lits.injEq,PV.int.injEq,PV.agg.injEq,true_and,AK,AD]at h
 simp [Prod.ext_iff,h] <;> omega
theorem WW (hn:Int) (ls:List Lnk) (us:List Snd) (d:Dem) (l:List Snd):Ag Nr rK rL [.agg [I hn,Ax ls,Aw us,I d.1,I d.2.1,I d.2.2.1,I d.2.2.2.1,I d.2.2.2.2],Aw l]=@ite (Option (PV)) (Br hn ls us=0) (Classical.propDecidable _) (some (B (decide (Lz hn ls us l d)))) none:=BF Agu (hn,ls,us,d,l)
def rM:Prop:=∀(hn:Int) (ls:List Lnk) (us:List Snd) (d:Dem) (l:List Snd) (h:Br hn ls us=0) ,VC Try.prog 40 [.agg [I hn,Ax ls,Aw us,I d.1,I d.2.1,I d.2.2.1,I d.2.2.2.1,I d.2.2.2.2],Aw l] (B (decide (Lz hn ls us l d)))
def rN:Prop:=AM Try.prog e_ppos.1 e_ppos.2
theorem Agv (c:rM):rN:=Ao fun⟨hn,ls,us,d,l⟩ h=>c hn ls us d l h
theorem Agw:rM:=by
 intro hn ls us d l hf
 refine AW AO (l := [e_serves,e_cntS]) ((Ad oC (Ad Ags An))) [] []  Try.func40 rfl (by decide +kernel) (N:=16) rfl (by simp) rfl (by kernel_rfl) fun hs=>?_
 simp only[AH,PV.small,List.length_map,and_true,true_and]at hs
 have sp:=nZ (hn:=hn) (ls:=ls) (l:=l) (d:=d)
 dsimp only[Ax,Aw,B6]at sp
 by_cases h:A9 hn ls l d=0
 ·have hov:=Agt (us:=us) hf h
  rw [h]at sp
  by_cases c:0≤Iw (ovM hn ls us) l
  ·rw [decide_eq_false (fun g=>(hov.2 g.2) c)]
   simp +contextual (maxSteps:=4000000) only[↓bdD,bdP,Nat.reduceLT,Nat.reduceBEq,Ai,Nat.reduceEqDiff,Nat.reduceAdd,Nat.reduceLeDiff,st0,↓reduceIte,e_serves,e_cntS,rH,Ac,Ab,Try.f40,Aq,AB,AP,A6,Xg,sp,c]
  ·rw [decide_eq_true ⟨h,hov.1 c⟩]
   simp +contextual (maxSteps:=4000000) only[↓bdD,bdP,Nat.reduceLT,Nat.reduceBEq,Ai,Nat.reduceEqDiff,Nat.reduceAdd,Nat.reduceLeDiff,st0,↓reduceIte,e_serves,e_cntS,rH,Ac,Ab,Try.f40,Aq,AB,AP,A6,Xg,sp,c]
 ·rw [decide_eq_false (fun g=>h g.1)]
  generalize A9 hn ls l d=r at *
  simp +contextual (maxSteps:=4000000) only[↓bdD,bdP,Nat.reduceLT,Nat.reduceBEq,Ai,Nat.reduceAdd,Nat.reduceLeDiff,st0,↓reduceIte,e_serves,e_cntS,Ac,Ab,Try.f40,Aq,AB,AP,A6,sp,h]
theorem Agx:rN:=Agv Agw
noncomputable def Ns:(Int)×(List Lnk)×(List Snd)×(Dem)×(List Snd)→List PV:=fun (hn,ls,us,d,l) => [.agg [I hn,Ax ls,Aw us,I d.1,I d.2.1,I d.2.2.1,I d.2.2.2.1,I d.2.2.2.2],Aw l]
noncomputable def rO:(Int)×(List Lnk)×(List Snd)×(Dem)×(List Snd)→PV:=fun (hn,ls,us,d,l)=>B (decide (Lz hn ls us l d))
def rP:(Int)×(List Lnk)×(List Snd)×(Dem)×(List Snd)→Prop:=fun (hn,ls,us,d,l)=>Br hn ls us=0
noncomputable def e_rpos:Nat×Ent:=(26,.v (Ag Ns rO rP))
theorem Agy:∀i j,Ns i=Ns j→i=j:=by
 rintro ⟨hn₁,ls₁,us₁,d₁,l₁⟩ ⟨hn₂,ls₂,us₂,d₂,l₂⟩ h
 simp only[Ns,List.cons.injEq,and_true,PV.lits.injEq,PV.int.injEq,PV.agg.injEq,true_and,AK,AD]at h
 simp [Prod.ext_iff,h] <;> omega
theorem WX (hn:Int) (ls:List Lnk) (us:List Snd) (d:Dem) (l:List Snd):Ag Ns rO rP [.agg [I hn,Ax ls,Aw us,I d.1,I d.2.1,I d.2.2.1,I d.2.2.2.1,I d.2.2.2.2],Aw l]=@ite (Option (PV)) (Br hn ls us=0) (Classical.propDecidable _) (some (B (decide (Lz hn ls us l d)))) none:=BF Agy (hn,ls,us,d,l)
def rQ:Prop:=∀(hn:Int) (ls:List Lnk) (us:List Snd) (d:Dem) (l:List Snd) (h:Br hn ls us=0) ,VC Try.prog 26 [.agg [I hn,Ax ls,Aw us,I d.1,I d.2.1,I d.2.2.1,I d.2.2.2.1,I d.2.2.2.2],Aw l] (B (decide (Lz hn ls us l d)))
def rR:Prop:=AM Try.prog e_rpos.1 e_rpos.2
theorem Agz (c:rQ):rR:=Ao fun⟨hn,ls,us,d,l⟩ h=>c hn ls us d l h
theorem Ag0:rQ:=by
 intro hn ls us d l hf
 refine AW AO (l := [e_rserves,e_pleft]) ((Ad cQ (Ad Yu An))) [] []  Try.func26 rfl (by decide +kernel) (N:=39) rfl (by simp) rfl (by kernel_rfl) fun hs=>?_
 simp only[AH,PV.small,List.length_map,and_true,true_and]at hs
 have hsl:=hs.2.1
 have sp:=cN (hn:=hn) (ls:=ls) (l:=l) (d:=d)
 dsimp only[Ax,Aw,B6]at sp
 by_cases h:A9 hn ls l d=0
 case neg =>
  rw [decide_eq_false (fun g=>h g.1)]
  generalize A9 hn ls l d=r at *
  simp +contextual (maxSteps:=4000000) only[↓bdD,bdP,Nat.reduceLT,Nat.reduceBEq,Ai,Nat.reduceAdd,Nat.reduceLeDiff,st0,↓reduceIte,e_rserves,e_pleft,Ac,Ab,Try.f26,Aq,AB,AP,A6,sp,h]
 have okl:=(serves_iff.1 h).ok
 rw [h]at sp
 generalize hr:decide (Lz hn ls us l d)=r
 simp +contextual (maxSteps:=4000000) only[↓bdD,bdP,Nat.reduceLT,Nat.reduceBEq,Nat.reduceAdd,Nat.reduceLeDiff,st0,↓reduceIte,e_rserves,e_pleft,Ac,Ab,Try.f26,Aq,AB,AP,A6,sp]
 refine Ar [4,5,6,14,15,16,17,18,19,20,21,22,23,24,25,26,27,28,29,30,31,32,33,34,35,36,37,38] l.length (fun k ρ st'=>ρ 5=I k∧∀i,i<k→(l.getD i dS).2.2≤lfM ls us (l.getD i dS).1 (l.getD i dS).2.1) (.refl _) ?_ ?_
 ·simp +contextual (maxSteps:=4000000) only[↓bdD,bdP]
  exact fun j hj=>absurd hj (by omega)
 rintro k ρ ⟨ob,M⟩ hk ⟨h5,hI⟩
 by_cases hlt:k<l.length
 ·have hwk:IntKind.i64.wrap ((k:Int)+1)=((k+1:Nat):Int):=by rw[Af (by omega) (by omega)];omega
  have e1:=okl.link k hlt
  have e2:=okl.tick k hlt
  have sq:=Yr (hn:=hn) (ls:=ls) (us:=us) (d:=d) (link:=(l.getD k dS).1) (tick:=(l.getD k dS).2.1)
  rw [if_pos ⟨hf,e1.1,e1.2,e2.1⟩]at sq
  dsimp only[Ax,Aw]at sq
  by_cases c:lfM ls us (l.getD k dS).1 (l.getD k dS).2.1<(l.getD k dS).2.2
  ·rw [decide_eq_false (fun g=>by have:=g.2 k hlt;omega)]at hr
   subst hr
   simp +contextual (maxSteps:=4000000) only[↓bdD,bdP,Nat.reduceLT,Nat.reduceBEq,Ai,Nat.reduceEqDiff,Nat.reduceAdd,↓reduceIte,Ay,Ac,Ab,ty3,AB,A6,Bv,h5,hlt,sq,c]
  ·simp +contextual (maxSteps:=4000000) only[↓bdD,bdP,Nat.reduceLT,Nat.reduceBEq,Nat.reduceEqDiff,Nat.reduceAdd,↓reduceIte,Ay,Ac,Ab,ty3,AB,A6,Bv,h5,hlt,hwk,sq,c]
   intro i hi
   by_cases e:i=k
   ·subst e;omega
   ·exact hI i (by omega)
 ·have e:k=l.length:=by omega
  subst e
  rw [decide_eq_true ⟨h,hI⟩]at hr
  subst hr
  simp +contextual (maxSteps:=4000000) only[↓bdD,bdP,Nat.reduceLT,Nat.reduceBEq,Ai,Nat.reduceAdd,↓reduceIte,AB,h5]
theorem Ag1:rR:=Agz Ag0
end Sim
