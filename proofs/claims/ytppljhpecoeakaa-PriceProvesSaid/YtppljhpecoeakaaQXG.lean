/- What functions of this seat compute, by values: contracts (lemmas of the statement's proof, under the conditions that each names). -/
import Derived.Test.YtppljhpecoeakaaQXD
set_option maxRecDepth 10000
set_option maxHeartbeats 4000000
set_option linter.unusedVariables false
set_option linter.unusedSimpArgs false
namespace Sim
open Go Go.Proofs
attribute [local congr] Am An Ai Aw Ap Ao As
end Sim
namespace Sim
open Go Go.Proofs
attribute [local congr] Am An Ai Aw Ap Ao As
def ovM (hn:Int) (ls:List Lnk) (us:List Snd) (s:Snd):Bool:=decide ((DP hn ls us s.1 s.2.1).2≠0∨(DP hn ls us s.1 s.2.1).1<s.2.2)
noncomputable def MH:(Int)×(List Lnk)×(List Snd)×(Dem)×(Snd)→List PV:=fun (hn,ls,us,d,s) => [GC s,.vptr [I hn,AC ls,AA us,I d.1,I d.2.1,I d.2.2.1,I d.2.2.2.1,I d.2.2.2.2] 0]
noncomputable def kT:(Int)×(List Lnk)×(List Snd)×(Dem)×(Snd)→PV:=fun (hn,ls,us,d,s)=>B (ovM hn ls us s)
def kU:(Int)×(List Lnk)×(List Snd)×(Dem)×(Snd)→Prop:=fun (hn,ls,us,d,s)=>True
noncomputable def e_pos1:Nat×Ent:=(60,.v (Al MH kT kU))
theorem Abc:∀i j,MH i=MH j→i=j:=by
 rintro ⟨hn₁,ls₁,us₁,d₁,s₁⟩ ⟨hn₂,ls₂,us₂,d₂,s₂⟩ h
 simp only[MH,List.cons.injEq,and_true,PV.lits.injEq,PV.int.injEq,PV.agg.injEq,PV.vptr.injEq,true_and,AY,AN]at h
 simp [Prod.ext_iff,h] <;> omega
theorem Abd (hn:Int) (ls:List Lnk) (us:List Snd) (d:Dem) (s:Snd):Al MH kT kU [GC s,.vptr [I hn,AC ls,AA us,I d.1,I d.2.1,I d.2.2.1,I d.2.2.2.1,I d.2.2.2.2] 0]=some (B (ovM hn ls us s)):=AD Abc (i:=(hn,ls,us,d,s)) trivial
def kV:Prop:=∀(hn:Int) (ls:List Lnk) (us:List Snd) (d:Dem) (s:Snd) ,VC Try.prog 60 [GC s,.vptr [I hn,AC ls,AA us,I d.1,I d.2.1,I d.2.2.1,I d.2.2.2.1,I d.2.2.2.2] 0] (B (ovM hn ls us s))
def kW:Prop:=AT Try.prog e_pos1.1 e_pos1.2
theorem Abe (c:kV):kW:=Ay fun⟨hn,ls,us,d,s⟩ h=>c hn ls us d s
theorem Abf:kV:=by
 intro hn ls us d s
 refine Bk AV (l := [e_left]) ((Ae zP At)) [] []  Try.func60 rfl (by decide +kernel) (N:=26) rfl (by simp) rfl (by kernel_rfl) fun hs=>?_
 simp only[AJ,PV.small,List.length_map,and_true,true_and]at hs
 have sp:=zM (hn:=hn) (ls:=ls) (l:=us) (link:=s.1) (tick:=s.2.1)
 unfold ovM
 generalize (DP hn ls us s.1 s.2.1).2=e at *
 generalize (DP hn ls us s.1 s.2.1).1=x at *
 dsimp only[AC,AA]at sp
 by_cases h1:e=0
 ·by_cases h2:x<s.2.2
  ·rw [decide_eq_true (.inr h2)]
   simp +contextual (maxSteps:=4000000) only[↓bdD,bdP,Nat.reduceLT,Nat.reduceBEq,Ar,Nat.reduceAdd,Nat.reduceLeDiff,st0,↓reduceIte,e_left,Ad,Ab,Try.f60,ty3,AH,AR,Bz,CJ,sp,h1,h2]
  ·rw [decide_eq_false (by omega)]
   simp +contextual (maxSteps:=4000000) only[↓bdD,bdP,Nat.reduceLT,Nat.reduceBEq,Ar,Nat.reduceAdd,Nat.reduceLeDiff,st0,↓reduceIte,e_left,Ad,Ab,Try.f60,ty3,AH,AR,Bz,CJ,sp,h1,h2]
 ·rw [decide_eq_true (.inl h1)]
  simp +contextual (maxSteps:=4000000) only[↓bdD,bdP,Nat.reduceLT,Nat.reduceBEq,Ar,Nat.reduceAdd,Nat.reduceLeDiff,st0,↓reduceIte,e_left,Ad,Ab,Try.f60,ty3,AH,AR,Bz,CJ,sp,h1]
theorem Abg:kW:=Abe Abf
def H5 {α:Type} (p:α→Bool) (y:List α):Int:=if y.findIdx p<y.length then (y.findIdx p:Int)else -1
theorem kX {α:Type} {p:α→Bool} {d:α} {y:List α} {k:Nat} (hk:k<y.length) (h:p (y.getD k d)=true) (g:∀j,j<k→p (y.getD j d)=false):H5 p y=k:=by
 have e:y.findIdx p=k:=by
  rw [List.findIdx_eq hk]
  refine ⟨?_,fun j hj=>?_⟩
  ·have : y.getD k d=y[k]:=by simp[hk]
   rw [←this];exact h
  ·have hjl:j<y.length:=by omega
   have : y.getD j d=y[j]:=by simp[hjl]
   rw [←this];exact g j hj
 unfold H5
 rw [e,if_pos hk]
theorem Zz {α:Type} {p:α→Bool} {d:α} {y:List α} (g:∀j,j<y.length→p (y.getD j d)=false):H5 p y = -1:=by
 have e:y.findIdx p=y.length:=by
  rw [List.findIdx_eq_length]
  intro x hx
  obtain ⟨j,hj,rfl⟩:=List.getElem_of_mem hx
  have : y.getD j d=y[j]:=by simp[hj]
  rw [←this];exact g j hj
 unfold H5
 rw [e,if_neg (by omega)]
theorem kY {α:Type} {p:α→Bool} {y:List α}:0≤H5 p y↔∃x∈y,p x=true:=by
 rw [←List.findIdx_lt_length]
 unfold H5
 constructor
 ·intro h
  split at h
  ·assumption
  ·omega
 ·intro h
  rw [if_pos h];omega
noncomputable def MI:(Int)×(List Lnk)×(List Snd)×(Dem)×(List Snd)→List PV:=fun (hn,ls,us,d,l) => [AA l,.func (.func 60) [] [.vptr [I hn,AC ls,AA us,I d.1,I d.2.1,I d.2.2.1,I d.2.2.2.1,I d.2.2.2.2] 0]]
noncomputable def kZ:(Int)×(List Lnk)×(List Snd)×(Dem)×(List Snd)→PV:=fun (hn,ls,us,d,l)=>I (H5 (ovM hn ls us) l)
def lA:(Int)×(List Lnk)×(List Snd)×(Dem)×(List Snd)→Prop:=fun (hn,ls,us,d,l)=>True
noncomputable def e_idxS:Nat×Ent:=(72,.v (Al MI kZ lA))
theorem Abh:∀i j,MI i=MI j→i=j:=by
 rintro ⟨hn₁,ls₁,us₁,d₁,l₁⟩ ⟨hn₂,ls₂,us₂,d₂,l₂⟩ h
 simp only[MI,List.cons.injEq,and_true,PV.lits.injEq,PV.int.injEq,PV.func.injEq,PV.vptr.injEq,true_and,AY,AN]at h
 simp [Prod.ext_iff,h] <;> omega
theorem lB (hn:Int) (ls:List Lnk) (us:List Snd) (d:Dem) (l:List Snd):Al MI kZ lA [AA l,.func (.func 60) [] [.vptr [I hn,AC ls,AA us,I d.1,I d.2.1,I d.2.2.1,I d.2.2.2.1,I d.2.2.2.2] 0]]=some (I (H5 (ovM hn ls us) l)):=AD Abh (i:=(hn,ls,us,d,l)) trivial
def lC:Prop:=∀(hn:Int) (ls:List Lnk) (us:List Snd) (d:Dem) (l:List Snd) ,VC Try.prog 72 [AA l,.func (.func 60) [] [.vptr [I hn,AC ls,AA us,I d.1,I d.2.1,I d.2.2.1,I d.2.2.2.1,I d.2.2.2.2] 0]] (I (H5 (ovM hn ls us) l))
def lE:Prop:=AT Try.prog e_idxS.1 e_idxS.2
theorem Abi (c:lC):lE:=Ay fun⟨hn,ls,us,d,l⟩ h=>c hn ls us d l
theorem Abj:lC:=by
 intro hn ls us d l
 refine Bk AV (l := [e_pos1]) ((Ae Abg At)) [] []  Try.func72 rfl (by decide +kernel) (N:=19) rfl (by simp) rfl (by kernel_rfl) fun hs=>?_
 simp only[AJ,PV.small,List.length_map,and_true]at hs
 have hsl:=hs.1
 have sp:=fun s=>Abd (hn:=hn) (ls:=ls) (us:=us) (d:=d) (s:=s)
 generalize hr:H5 (ovM hn ls us) l=r
 simp +contextual (maxSteps:=4000000) only[↓bdD,bdP,Nat.reduceLT,Nat.reduceBEq,Nat.reduceAdd,st0,↓reduceIte,e_pos1,Try.f72,AR]
 refine Az [4,5,8,9,10,11,12,13,14,15,16,17,18] l.length (fun k ρ st'=>ρ 8=I k∧∀j,j<k→ovM hn ls us (l.getD j dS)=false) (.refl _) ?_ ?_
 ·simp +contextual (maxSteps:=4000000) only[↓bdD,bdP]
  exact fun j hj=>absurd hj (by omega)
 rintro k ρ ⟨ob,M⟩ hk ⟨h8,hI⟩
 by_cases hlt:k<l.length
 ·have hwk:IntKind.i64.wrap ((k:Int)+1)=((k+1:Nat):Int):=by rw[Ah (by omega) (by omega)];omega
  have spk:=sp (l.getD k dS)
  dsimp only[GC,AC,AA]at spk
  cases hp:ovM hn ls us (l.getD k dS)
  ·rw [hp]at spk
   simp +contextual (maxSteps:=4000000) only[↓bdD,bdP,Nat.reduceLT,Nat.reduceBEq,Nat.reduceAdd,↓reduceIte,A3,Ad,Ab,AR,CJ,h8,hlt,hwk,spk]
   intro j hj
   by_cases e:j=k
   ·rw [e];exact hp
   ·exact hI j (by omega)
  ·have := kX hlt hp hI
   rw [hr]at this
   rw [hp]at spk
   simp +contextual (maxSteps:=4000000) only[↓bdD,bdP,Nat.reduceLT,Nat.reduceBEq,Ar,Nat.reduceAdd,↓reduceIte,A3,Ad,Ab,AR,CJ,h8,hlt,spk,this]
 ·have e:k=l.length:=by omega
  subst e
  have := Zz hI
  rw [hr]at this
  simp +contextual (maxSteps:=4000000) only[↓bdD,bdP,Nat.reduceLT,Nat.reduceBEq,Ar,↓reduceIte,h8,this]
theorem Abk:lE:=Abi Abj
noncomputable def MJ:(Int)×(List Lnk)×(List Snd)×(Dem)×(List Snd)→List PV:=fun (hn,ls,us,d,l) => [AA l,.func (.func 60) [] [.vptr [I hn,AC ls,AA us,I d.1,I d.2.1,I d.2.2.1,I d.2.2.2.1,I d.2.2.2.2] 0]]
noncomputable def lF:(Int)×(List Lnk)×(List Snd)×(Dem)×(List Snd)→PV:=fun (hn,ls,us,d,l)=>B (decide (0≤H5 (ovM hn ls us) l))
def lG:(Int)×(List Lnk)×(List Snd)×(Dem)×(List Snd)→Prop:=fun (hn,ls,us,d,l)=>True
noncomputable def e_cntS:Nat×Ent:=(59,.v (Al MJ lF lG))
theorem Abl:∀i j,MJ i=MJ j→i=j:=by
 rintro ⟨hn₁,ls₁,us₁,d₁,l₁⟩ ⟨hn₂,ls₂,us₂,d₂,l₂⟩ h
 simp only[MJ,List.cons.injEq,and_true,PV.lits.injEq,PV.int.injEq,PV.func.injEq,PV.vptr.injEq,true_and,AY,AN]at h
 simp [Prod.ext_iff,h] <;> omega
theorem lH (hn:Int) (ls:List Lnk) (us:List Snd) (d:Dem) (l:List Snd):Al MJ lF lG [AA l,.func (.func 60) [] [.vptr [I hn,AC ls,AA us,I d.1,I d.2.1,I d.2.2.1,I d.2.2.2.1,I d.2.2.2.2] 0]]=some (B (decide (0≤H5 (ovM hn ls us) l))):=AD Abl (i:=(hn,ls,us,d,l)) trivial
def lI:Prop:=∀(hn:Int) (ls:List Lnk) (us:List Snd) (d:Dem) (l:List Snd) ,VC Try.prog 59 [AA l,.func (.func 60) [] [.vptr [I hn,AC ls,AA us,I d.1,I d.2.1,I d.2.2.1,I d.2.2.2.1,I d.2.2.2.2] 0]] (B (decide (0≤H5 (ovM hn ls us) l)))
def lJ:Prop:=AT Try.prog e_cntS.1 e_cntS.2
theorem Abm (c:lI):lJ:=Ay fun⟨hn,ls,us,d,l⟩ h=>c hn ls us d l
theorem Abn:lI:=by
 intro hn ls us d y
 refine Bk AV (l := [e_idxS]) ((Ae Abk At)) [] []  Try.func59 rfl (by decide +kernel) (N:=9) rfl (by simp) rfl (by kernel_rfl) fun hs=>?_
 simp only[AJ,PV.small,List.length_map,and_true]at hs
 by_cases h:0≤H5 (ovM hn ls us) y
 ·simp +contextual (maxSteps:=4000000) only[↓bdD,bdP,Nat.reduceLT,Nat.reduceBEq,Ar,Nat.reduceAdd,st0,↓reduceIte,e_idxS,lB,Ad,Ab,Try.f59,AR,VM,h]
 ·simp +contextual (maxSteps:=4000000) only[↓bdD,bdP,Nat.reduceLT,Nat.reduceBEq,Ar,Nat.reduceAdd,st0,↓reduceIte,e_idxS,lB,Ad,Ab,Try.f59,AR,VM,h]
theorem Abo:lJ:=Abm Abn
def Vs (hn:Int) (ls:List Lnk) (us l:List Snd) (d:Dem):Prop:=BO hn ls l d=0∧∀i,i<l.length→(l.getD i dS).2.2≤lfM ls us (l.getD i dS).1 (l.getD i dS).2.1
instance {hn:Int} {ls:List Lnk} {us l:List Snd} {d:Dem}:Decidable (Vs hn ls us l d):=inferInstanceAs (Decidable (_∧_))
theorem Abp {hn:Int} {ls:List Lnk} {us l:List Snd} {d:Dem} (hf:BZ hn ls us=0) (h:BO hn ls l d=0):(¬0≤H5 (ovM hn ls us) l)↔∀i,i<l.length→(l.getD i dS).2.2≤lfM ls us (l.getD i dS).1 (l.getD i dS).2.1:=by
 obtain ⟨ok,_⟩:=Ch hf
 have okl:=(serves_iff.1 h).ok
 have hrz:=right_zero.2 ok
 have key:∀i,i<l.length→DP hn ls us (l.getD i dS).1 (l.getD i dS).2.1=(lfM ls us (l.getD i dS).1 (l.getD i dS).2.1,0):=fun i hi=>by
  have e1:=okl.link i hi
  have e2:=okl.tick i hi
  unfold DP
  rw [if_neg (fun g=>g hrz),if_neg (by omega)];rfl
 rw [kY]
 constructor
 ·intro g i hi
  refine Classical.byContradiction fun c=>g ⟨l.getD i dS,?_,?_⟩
  ·rw [List.getD_eq_getElem?_getD,List.getElem?_eq_getElem hi];exact List.getElem_mem _
  ·unfold ovM
   rw [key i hi,decide_eq_true_eq]
   exact .inr (by dsimp only;omega)
 ·rintro g ⟨x,hx,hp⟩
  obtain ⟨i,hi,rfl⟩:=List.getElem_of_mem hx
  have e:l.getD i dS=l[i]:=by simp[hi]
  have := g i hi
  have k:=key i hi
  rw [e]at this k
  unfold ovM at hp
  rw [k,decide_eq_true_eq]at hp
  dsimp only at hp
  omega
noncomputable def ML:(Int)×(List Lnk)×(List Snd)×(Dem)×(List Snd)→List PV:=fun (hn,ls,us,d,l) => [.agg [I hn,AC ls,AA us,I d.1,I d.2.1,I d.2.2.1,I d.2.2.2.1,I d.2.2.2.2],AA l]
noncomputable def lK:(Int)×(List Lnk)×(List Snd)×(Dem)×(List Snd)→PV:=fun (hn,ls,us,d,l)=>B (decide (Vs hn ls us l d))
def lL:(Int)×(List Lnk)×(List Snd)×(Dem)×(List Snd)→Prop:=fun (hn,ls,us,d,l)=>BZ hn ls us=0
noncomputable def e_ppos:Nat×Ent:=(40,.v (Al ML lK lL))
theorem Abq:∀i j,ML i=ML j→i=j:=by
 rintro ⟨hn₁,ls₁,us₁,d₁,l₁⟩ ⟨hn₂,ls₂,us₂,d₂,l₂⟩ h
 simp only[ML,List.cons.injEq,and_true,PV.lits.injEq,PV.int.injEq,PV.agg.injEq,true_and,AY,AN]at h
 simp [Prod.ext_iff,h] <;> omega
theorem Vt (hn:Int) (ls:List Lnk) (us:List Snd) (d:Dem) (l:List Snd):Al ML lK lL [.agg [I hn,AC ls,AA us,I d.1,I d.2.1,I d.2.2.1,I d.2.2.2.1,I d.2.2.2.2],AA l]=@ite (Option (PV)) (BZ hn ls us=0) (Classical.propDecidable _) (some (B (decide (Vs hn ls us l d)))) none:=Cm Abq (hn,ls,us,d,l)
def lM:Prop:=∀(hn:Int) (ls:List Lnk) (us:List Snd) (d:Dem) (l:List Snd) (h:BZ hn ls us=0) ,VC Try.prog 40 [.agg [I hn,AC ls,AA us,I d.1,I d.2.1,I d.2.2.1,I d.2.2.2.1,I d.2.2.2.2],AA l] (B (decide (Vs hn ls us l d)))
def lN:Prop:=AT Try.prog e_ppos.1 e_ppos.2
theorem Abr (c:lM):lN:=Ay fun⟨hn,ls,us,d,l⟩ h=>c hn ls us d l h
theorem Abs:lM:=by
 intro hn ls us d l hf
 refine Bk AV (l := [e_serves,e_cntS]) ((Ae iI (Ae Abo At))) [] []  Try.func40 rfl (by decide +kernel) (N:=16) rfl (by simp) rfl (by kernel_rfl) fun hs=>?_
 simp only[AJ,PV.small,List.length_map,and_true,true_and]at hs
 have sp:=iF (hn:=hn) (ls:=ls) (l:=l) (d:=d)
 dsimp only[AC,AA,CR]at sp
 by_cases h:BO hn ls l d=0
 ·have hov:=Abp (us:=us) hf h
  rw [h]at sp
  by_cases c:0≤H5 (ovM hn ls us) l
  ·rw [decide_eq_false (fun g=>(hov.2 g.2) c)]
   simp +contextual (maxSteps:=4000000) only[↓bdD,bdP,Nat.reduceLT,Nat.reduceBEq,Ar,Nat.reduceEqDiff,Nat.reduceAdd,Nat.reduceLeDiff,st0,↓reduceIte,e_serves,e_cntS,lH,Ad,Ab,Try.f40,AH,AR,AZ,Bz,VM,sp,c]
  ·rw [decide_eq_true ⟨h,hov.1 c⟩]
   simp +contextual (maxSteps:=4000000) only[↓bdD,bdP,Nat.reduceLT,Nat.reduceBEq,Ar,Nat.reduceEqDiff,Nat.reduceAdd,Nat.reduceLeDiff,st0,↓reduceIte,e_serves,e_cntS,lH,Ad,Ab,Try.f40,AH,AR,AZ,Bz,VM,sp,c]
 ·rw [decide_eq_false (fun g=>h g.1)]
  generalize BO hn ls l d=r at *
  simp +contextual (maxSteps:=4000000) only[↓bdD,bdP,Nat.reduceLT,Nat.reduceBEq,Ar,Nat.reduceAdd,Nat.reduceLeDiff,st0,↓reduceIte,e_serves,e_cntS,Ad,Ab,Try.f40,AH,AR,AZ,Bz,sp,h]
theorem Abt:lN:=Abr Abs
end Sim
namespace Sim
open Go Go.Proofs
attribute [local congr] Am An Ai Aw Ap Ao As
def Qn (hn:Int) (ls:List Lnk) (us:List Snd) (d:Dem) (l:List Snd) (y:List (List Int)):Prop:=GG hn ls us d y=0∧Vs hn ls us l d∧Fe hn ls l≤JN hn ls us d y
instance {hn:Int} {ls:List Lnk} {us:List Snd} {d:Dem} {l:List Snd} {y:List (List Int)}:Decidable (Qn hn ls us d l y):=inferInstanceAs (Decidable (_∧_))
theorem uR {hn:Int} {ls:List Lnk} {us:List Snd} {d:Dem} {y:List (List Int)} (h:GG hn ls us d y=0):CU hn ls us d=0∧shE hn d y=0:=by
 unfold GG at h
 split at h
 ·contradiction
 ·rename_i c;exact⟨Classical.not_not.1 c,h⟩
noncomputable def FL:(Int)×(List Lnk)×(List Snd)×(Dem)×(List Snd)×(List (List Int))→List PV:=fun (hn,ls,us,d,l,y) => [.agg [I hn,AC ls,AA us,I d.1,I d.2.1,I d.2.2.1,I d.2.2.2.1,I d.2.2.2.2],AA l,Ez y]
noncomputable def On:(Int)×(List Lnk)×(List Snd)×(Dem)×(List Snd)×(List (List Int))→PV:=fun (hn,ls,us,d,l,y)=>B (decide (Qn hn ls us d l y))
def Oo:(Int)×(List Lnk)×(List Snd)×(Dem)×(List Snd)×(List (List Int))→Prop:=fun (hn,ls,us,d,l,y)=>True
noncomputable def e_paccept:Nat×Ent:=(17,.v (Al FL On Oo))
theorem ZA:∀i j,FL i=FL j→i=j:=by
 rintro ⟨hn₁,ls₁,us₁,d₁,l₁,y₁⟩ ⟨hn₂,ls₂,us₂,d₂,l₂,y₂⟩ h
 simp only[FL,List.cons.injEq,and_true,PV.lits.injEq,PV.int.injEq,PV.agg.injEq,true_and,AY,AN,JM]at h
 simp [Prod.ext_iff,h] <;> omega
theorem FM (hn:Int) (ls:List Lnk) (us:List Snd) (d:Dem) (l:List Snd) (y:List (List Int)):Al FL On Oo [.agg [I hn,AC ls,AA us,I d.1,I d.2.1,I d.2.2.1,I d.2.2.2.1,I d.2.2.2.2],AA l,Ez y]=some (B (decide (Qn hn ls us d l y))):=AD ZA (i:=(hn,ls,us,d,l,y)) trivial
def Oq:Prop:=∀(hn:Int) (ls:List Lnk) (us:List Snd) (d:Dem) (l:List Snd) (y:List (List Int)) ,VC Try.prog 17 [.agg [I hn,AC ls,AA us,I d.1,I d.2.1,I d.2.2.1,I d.2.2.2.1,I d.2.2.2.2],AA l,Ez y] (B (decide (Qn hn ls us d l y)))
def Ot:Prop:=AT Try.prog e_paccept.1 e_paccept.2
theorem ZB (c:Oq):Ot:=Ay fun⟨hn,ls,us,d,l,y⟩ h=>c hn ls us d l y
theorem ZC:Oq:=by
 intro hn ls us d l y
 refine Bk AV (l := [e_pbound,e_ppos,e_cost]) ((Ae MG (Ae Abt (Ae gQ At)))) [] []  Try.func17 rfl (by decide +kernel) (N:=38) rfl (by simp) rfl (by kernel_rfl) fun hs=>?_
 simp only[AJ,PV.small,List.length_map,and_true,true_and]at hs
 have sp:=Hy (hn:=hn) (ls:=ls) (us:=us) (d:=d) (y:=y)
 have sq:=gJ (hn:=hn) (ls:=ls) (l:=l)
 dsimp only[AC,AA,CR,Ez]at sp sq
 by_cases h:GG hn ls us d y=0
 case neg =>
  rw [decide_eq_false (fun g=>h g.1)]
  generalize GG hn ls us d y=r at *
  simp +contextual (maxSteps:=4000000) only[↓bdD,bdP,Nat.reduceLT,Nat.reduceBEq,Ar,Nat.reduceAdd,st0,↓reduceIte,e_pbound,e_ppos,e_cost,Ad,Ab,CW,Try.f17,Bz,Br,sp,h]
 have hf:=(CT (pck_zero.1 (uR h).1).1).1
 rw [h]at sp
 by_cases c:Vs hn ls us l d
 case neg =>
  rw [decide_eq_false (fun g=>c g.2.1)]
  simp +contextual (maxSteps:=4000000) only[↓bdD,bdP,Nat.reduceLT,Nat.reduceBEq,Ar,Nat.reduceEqDiff,Nat.reduceAdd,st0,↓reduceIte,e_pbound,e_ppos,Vt,e_cost,Ad,Ab,CW,Try.f17,AR,Bz,Br,sp,hf,c]
 have hz:=right_zero.2 (serves_iff.1 c.1).ok
 rw [hz]at sq
 by_cases e:Fe hn ls l≤JN hn ls us d y
 ·rw [decide_eq_true ⟨h,c,e⟩]
  simp +contextual (maxSteps:=4000000) only[↓bdD,bdP,Nat.reduceLT,Nat.reduceBEq,Ar,Nat.reduceEqDiff,Nat.reduceAdd,Nat.reduceLeDiff,st0,↓reduceIte,e_pbound,e_ppos,Vt,e_cost,Ad,Ab,CW,Try.f17,AH,AR,Bz,Br,sp,sq,hf,c,e]
 ·rw [decide_eq_false (fun g=>e g.2.2)]
  simp +contextual (maxSteps:=4000000) only[↓bdD,bdP,Nat.reduceLT,Nat.reduceBEq,Ar,Nat.reduceEqDiff,Nat.reduceAdd,Nat.reduceLeDiff,st0,↓reduceIte,e_pbound,e_ppos,Vt,e_cost,Ad,Ab,CW,Try.f17,AH,AR,Bz,Br,sp,sq,hf,c,e]
theorem Ou:Ot:=ZB ZC
end Sim
