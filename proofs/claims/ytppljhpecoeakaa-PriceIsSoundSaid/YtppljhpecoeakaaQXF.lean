/- What functions of this seat compute, by values: contracts (lemmas of the statement's proof, under the conditions that each names). -/
import Derived.Test.YtppljhpecoeakaaQXD
set_option maxRecDepth 10000
set_option maxHeartbeats 4000000
set_option linter.unusedVariables false
set_option linter.unusedSimpArgs false
namespace Sim
open Go Go.Proofs
attribute [local congr] Aq Ar Al AG At As Az
end Sim
namespace Sim
open Go Go.Proofs
attribute [local congr] Aq Ar Al AG At As Az
def ovM (hn:Int) (ls:List Lnk) (us:List Snd) (s:Snd):Bool:=decide ((Ed hn ls us s.1 s.2.1).2≠0∨(Ed hn ls us s.1 s.2.1).1<s.2.2)
noncomputable def Nu:(Int)×(List Lnk)×(List Snd)×(Dem)×(Snd)→List PV:=fun (hn,ls,us,d,s) => [Hc s,.vptr [I hn,Ax ls,Av us,I d.1,I d.2.1,I d.2.2.1,I d.2.2.2.1,I d.2.2.2.2] 0]
noncomputable def qG:(Int)×(List Lnk)×(List Snd)×(Dem)×(Snd)→PV:=fun (hn,ls,us,d,s)=>B (ovM hn ls us s)
def qH:(Int)×(List Lnk)×(List Snd)×(Dem)×(Snd)→Prop:=fun (hn,ls,us,d,s)=>True
noncomputable def e_pos1:Nat×Ent:=(60,.v (Ah Nu qG qH))
theorem Af2:∀i j,Nu i=Nu j→i=j:=by
 rintro ⟨hn₁,ls₁,us₁,d₁,s₁⟩ ⟨hn₂,ls₂,us₂,d₂,s₂⟩ h
 simp only[Nu,List.cons.injEq,and_true,PV.lits.injEq,PV.int.injEq,PV.agg.injEq,PV.vptr.injEq,true_and,AM,AF]at h
 simp [Prod.ext_iff,h] <;> omega
theorem Af3 (hn:Int) (ls:List Lnk) (us:List Snd) (d:Dem) (s:Snd):Ah Nu qG qH [Hc s,.vptr [I hn,Ax ls,Av us,I d.1,I d.2.1,I d.2.2.1,I d.2.2.2.1,I d.2.2.2.2] 0]=some (B (ovM hn ls us s)):=AC Af2 (i:=(hn,ls,us,d,s)) trivial
def qI:Prop:=∀(hn:Int) (ls:List Lnk) (us:List Snd) (d:Dem) (s:Snd) ,VC Try.prog 60 [Hc s,.vptr [I hn,Ax ls,Av us,I d.1,I d.2.1,I d.2.2.1,I d.2.2.2.1,I d.2.2.2.2] 0] (B (ovM hn ls us s))
def qJ:Prop:=AL Try.prog e_pos1.1 e_pos1.2
theorem Af4 (c:qI):qJ:=Ap fun⟨hn,ls,us,d,s⟩ h=>c hn ls us d s
theorem Af5:qI:=by
 intro hn ls us d s
 refine A3 AP (l := [e_left]) ((Ad Aej An)) [] []  Try.func60 rfl (by decide +kernel) (N:=26) rfl (by simp) rfl (by kernel_rfl) fun hs=>?_
 simp only[AJ,PV.small,List.length_map,and_true,true_and]at hs
 have sp:=Aeg (hn:=hn) (ls:=ls) (l:=us) (link:=s.1) (tick:=s.2.1)
 unfold ovM
 generalize (Ed hn ls us s.1 s.2.1).2=e at *
 generalize (Ed hn ls us s.1 s.2.1).1=x at *
 dsimp only[Ax,Av]at sp
 by_cases h1:e=0
 ·by_cases h2:x<s.2.2
  ·rw [decide_eq_true (.inr h2)]
   simp +contextual (maxSteps:=4000000) only[↓bdD,bdP,Nat.reduceLT,Nat.reduceBEq,Ai,Nat.reduceAdd,Nat.reduceLeDiff,st0,↓reduceIte,e_left,Ac,Ab,Try.f60,ty3,Au,AB,Bd,Bv,sp,h1,h2]
  ·rw [decide_eq_false (by omega)]
   simp +contextual (maxSteps:=4000000) only[↓bdD,bdP,Nat.reduceLT,Nat.reduceBEq,Ai,Nat.reduceAdd,Nat.reduceLeDiff,st0,↓reduceIte,e_left,Ac,Ab,Try.f60,ty3,Au,AB,Bd,Bv,sp,h1,h2]
 ·rw [decide_eq_true (.inl h1)]
  simp +contextual (maxSteps:=4000000) only[↓bdD,bdP,Nat.reduceLT,Nat.reduceBEq,Ai,Nat.reduceAdd,Nat.reduceLeDiff,st0,↓reduceIte,e_left,Ac,Ab,Try.f60,ty3,Au,AB,Bd,Bv,sp,h1]
theorem Af6:qJ:=Af4 Af5
def IC {α:Type} (p:α→Bool) (y:List α):Int:=if y.findIdx p<y.length then (y.findIdx p:Int)else -1
theorem qK {α:Type} {p:α→Bool} {d:α} {y:List α} {k:Nat} (hk:k<y.length) (h:p (y.getD k d)=true) (g:∀j,j<k→p (y.getD j d)=false):IC p y=k:=by
 have e:y.findIdx p=k:=by
  rw [List.findIdx_eq hk]
  refine ⟨?_,fun j hj=>?_⟩
  ·have : y.getD k d=y[k]:=by simp[hk]
   rw [←this];exact h
  ·have hjl:j<y.length:=by omega
   have : y.getD j d=y[j]:=by simp[hjl]
   rw [←this];exact g j hj
 unfold IC
 rw [e,if_pos hk]
theorem dR {α:Type} {p:α→Bool} {d:α} {y:List α} (g:∀j,j<y.length→p (y.getD j d)=false):IC p y = -1:=by
 have e:y.findIdx p=y.length:=by
  rw [List.findIdx_eq_length]
  intro x hx
  obtain ⟨j,hj,rfl⟩:=List.getElem_of_mem hx
  have : y.getD j d=y[j]:=by simp[hj]
  rw [←this];exact g j hj
 unfold IC
 rw [e,if_neg (by omega)]
theorem qL {α:Type} {p:α→Bool} {y:List α}:0≤IC p y↔∃x∈y,p x=true:=by
 rw [←List.findIdx_lt_length]
 unfold IC
 constructor
 ·intro h
  split at h
  ·assumption
  ·omega
 ·intro h
  rw [if_pos h];omega
noncomputable def Nv:(Int)×(List Lnk)×(List Snd)×(Dem)×(List Snd)→List PV:=fun (hn,ls,us,d,l) => [Av l,.func (.func 60) [] [.vptr [I hn,Ax ls,Av us,I d.1,I d.2.1,I d.2.2.1,I d.2.2.2.1,I d.2.2.2.2] 0]]
noncomputable def qM:(Int)×(List Lnk)×(List Snd)×(Dem)×(List Snd)→PV:=fun (hn,ls,us,d,l)=>I (IC (ovM hn ls us) l)
def qN:(Int)×(List Lnk)×(List Snd)×(Dem)×(List Snd)→Prop:=fun (hn,ls,us,d,l)=>True
noncomputable def e_idxS:Nat×Ent:=(72,.v (Ah Nv qM qN))
theorem Af7:∀i j,Nv i=Nv j→i=j:=by
 rintro ⟨hn₁,ls₁,us₁,d₁,l₁⟩ ⟨hn₂,ls₂,us₂,d₂,l₂⟩ h
 simp only[Nv,List.cons.injEq,and_true,PV.lits.injEq,PV.int.injEq,PV.func.injEq,PV.vptr.injEq,true_and,AM,AF]at h
 simp [Prod.ext_iff,h] <;> omega
theorem qO (hn:Int) (ls:List Lnk) (us:List Snd) (d:Dem) (l:List Snd):Ah Nv qM qN [Av l,.func (.func 60) [] [.vptr [I hn,Ax ls,Av us,I d.1,I d.2.1,I d.2.2.1,I d.2.2.2.1,I d.2.2.2.2] 0]]=some (I (IC (ovM hn ls us) l)):=AC Af7 (i:=(hn,ls,us,d,l)) trivial
def qP:Prop:=∀(hn:Int) (ls:List Lnk) (us:List Snd) (d:Dem) (l:List Snd) ,VC Try.prog 72 [Av l,.func (.func 60) [] [.vptr [I hn,Ax ls,Av us,I d.1,I d.2.1,I d.2.2.1,I d.2.2.2.1,I d.2.2.2.2] 0]] (I (IC (ovM hn ls us) l))
def qQ:Prop:=AL Try.prog e_idxS.1 e_idxS.2
theorem Af8 (c:qP):qQ:=Ap fun⟨hn,ls,us,d,l⟩ h=>c hn ls us d l
theorem Af9:qP:=by
 intro hn ls us d l
 refine A3 AP (l := [e_pos1]) ((Ad Af6 An)) [] []  Try.func72 rfl (by decide +kernel) (N:=19) rfl (by simp) rfl (by kernel_rfl) fun hs=>?_
 simp only[AJ,PV.small,List.length_map,and_true]at hs
 have hsl:=hs.1
 have sp:=fun s=>Af3 (hn:=hn) (ls:=ls) (us:=us) (d:=d) (s:=s)
 generalize hr:IC (ovM hn ls us) l=r
 simp +contextual (maxSteps:=4000000) only[↓bdD,bdP,Nat.reduceLT,Nat.reduceBEq,Nat.reduceAdd,st0,↓reduceIte,e_pos1,Try.f72,AB]
 refine Ay [4,5,8,9,10,11,12,13,14,15,16,17,18] l.length (fun k ρ st'=>ρ 8=I k∧∀j,j<k→ovM hn ls us (l.getD j dS)=false) (.refl _) ?_ ?_
 ·simp +contextual (maxSteps:=4000000) only[↓bdD,bdP]
  exact fun j hj=>absurd hj (by omega)
 rintro k ρ ⟨ob,M⟩ hk ⟨h8,hI⟩
 by_cases hlt:k<l.length
 ·have hwk:IntKind.i64.wrap ((k:Int)+1)=((k+1:Nat):Int):=by rw[Aj (by omega) (by omega)];omega
  have spk:=sp (l.getD k dS)
  dsimp only[Hc,Ax,Av]at spk
  cases hp:ovM hn ls us (l.getD k dS)
  ·rw [hp]at spk
   simp +contextual (maxSteps:=4000000) only[↓bdD,bdP,Nat.reduceLT,Nat.reduceBEq,Nat.reduceAdd,↓reduceIte,Aw,Ac,Ab,AB,Bv,h8,hlt,hwk,spk]
   intro j hj
   by_cases e:j=k
   ·rw [e];exact hp
   ·exact hI j (by omega)
  ·have := qK hlt hp hI
   rw [hr]at this
   rw [hp]at spk
   simp +contextual (maxSteps:=4000000) only[↓bdD,bdP,Nat.reduceLT,Nat.reduceBEq,Ai,Nat.reduceAdd,↓reduceIte,Aw,Ac,Ab,AB,Bv,h8,hlt,spk,this]
 ·have e:k=l.length:=by omega
  subst e
  have := dR hI
  rw [hr]at this
  simp +contextual (maxSteps:=4000000) only[↓bdD,bdP,Nat.reduceLT,Nat.reduceBEq,Ai,↓reduceIte,h8,this]
theorem Aga:qQ:=Af8 Af9
noncomputable def Nw:(Int)×(List Lnk)×(List Snd)×(Dem)×(List Snd)→List PV:=fun (hn,ls,us,d,l) => [Av l,.func (.func 60) [] [.vptr [I hn,Ax ls,Av us,I d.1,I d.2.1,I d.2.2.1,I d.2.2.2.1,I d.2.2.2.2] 0]]
noncomputable def qR:(Int)×(List Lnk)×(List Snd)×(Dem)×(List Snd)→PV:=fun (hn,ls,us,d,l)=>B (decide (0≤IC (ovM hn ls us) l))
def qS:(Int)×(List Lnk)×(List Snd)×(Dem)×(List Snd)→Prop:=fun (hn,ls,us,d,l)=>True
noncomputable def e_cntS:Nat×Ent:=(59,.v (Ah Nw qR qS))
theorem Agb:∀i j,Nw i=Nw j→i=j:=by
 rintro ⟨hn₁,ls₁,us₁,d₁,l₁⟩ ⟨hn₂,ls₂,us₂,d₂,l₂⟩ h
 simp only[Nw,List.cons.injEq,and_true,PV.lits.injEq,PV.int.injEq,PV.func.injEq,PV.vptr.injEq,true_and,AM,AF]at h
 simp [Prod.ext_iff,h] <;> omega
theorem qT (hn:Int) (ls:List Lnk) (us:List Snd) (d:Dem) (l:List Snd):Ah Nw qR qS [Av l,.func (.func 60) [] [.vptr [I hn,Ax ls,Av us,I d.1,I d.2.1,I d.2.2.1,I d.2.2.2.1,I d.2.2.2.2] 0]]=some (B (decide (0≤IC (ovM hn ls us) l))):=AC Agb (i:=(hn,ls,us,d,l)) trivial
def qU:Prop:=∀(hn:Int) (ls:List Lnk) (us:List Snd) (d:Dem) (l:List Snd) ,VC Try.prog 59 [Av l,.func (.func 60) [] [.vptr [I hn,Ax ls,Av us,I d.1,I d.2.1,I d.2.2.1,I d.2.2.2.1,I d.2.2.2.2] 0]] (B (decide (0≤IC (ovM hn ls us) l)))
def qV:Prop:=AL Try.prog e_cntS.1 e_cntS.2
theorem Agc (c:qU):qV:=Ap fun⟨hn,ls,us,d,l⟩ h=>c hn ls us d l
theorem Agd:qU:=by
 intro hn ls us d y
 refine A3 AP (l := [e_idxS]) ((Ad Aga An)) [] []  Try.func59 rfl (by decide +kernel) (N:=9) rfl (by simp) rfl (by kernel_rfl) fun hs=>?_
 simp only[AJ,PV.small,List.length_map,and_true]at hs
 by_cases h:0≤IC (ovM hn ls us) y
 ·simp +contextual (maxSteps:=4000000) only[↓bdD,bdP,Nat.reduceLT,Nat.reduceBEq,Ai,Nat.reduceAdd,st0,↓reduceIte,e_idxS,qO,Ac,Ab,Try.f59,AB,Xj,h]
 ·simp +contextual (maxSteps:=4000000) only[↓bdD,bdP,Nat.reduceLT,Nat.reduceBEq,Ai,Nat.reduceAdd,st0,↓reduceIte,e_idxS,qO,Ac,Ab,Try.f59,AB,Xj,h]
theorem Age:qV:=Agc Agd
def GK (hn:Int) (ls:List Lnk) (us l:List Snd) (d:Dem):Prop:=A6 hn ls l d=0∧∀i,i<l.length→(l.getD i dS).2.2≤lfM ls us (l.getD i dS).1 (l.getD i dS).2.1
instance {hn:Int} {ls:List Lnk} {us l:List Snd} {d:Dem}:Decidable (GK hn ls us l d):=inferInstanceAs (Decidable (_∧_))
theorem Agf {hn:Int} {ls:List Lnk} {us l:List Snd} {d:Dem} (hf:Br hn ls us=0) (h:A6 hn ls l d=0):(¬0≤IC (ovM hn ls us) l)↔∀i,i<l.length→(l.getD i dS).2.2≤lfM ls us (l.getD i dS).1 (l.getD i dS).2.1:=by
 obtain ⟨ok,_⟩:=Cf hf
 have okl:=(serves_iff.1 h).ok
 have hrz:=right_zero.2 ok
 have key:∀i,i<l.length→Ed hn ls us (l.getD i dS).1 (l.getD i dS).2.1=(lfM ls us (l.getD i dS).1 (l.getD i dS).2.1,0):=fun i hi=>by
  have e1:=okl.link i hi
  have e2:=okl.tick i hi
  unfold Ed
  rw [if_neg (fun g=>g hrz),if_neg (by omega)];rfl
 rw [qL]
 constructor
 ·intro g i hi
  refine Classical.byContradiction fun c=>g ⟨l.getD i dS,?_,?_⟩
  ·rw [List.getD_eq_getElem?_getD,List.getElem?_eq_getElem hi];exact List.getElem_mem _
  ·unfold ovM
   rw [key i hi,decide_eq_true_eq]
   exact .inr (by dsimp only;omega)
 ·rintro g ⟨x,hx,hp⟩
  obtain ⟨i,hi,rfl⟩:=List.getElem_of_mem hx
  have e:l.getD i dS=l[i]:=by simp[hi]
  have := g i hi
  have k:=key i hi
  rw [e]at this k
  unfold ovM at hp
  rw [k,decide_eq_true_eq]at hp
  dsimp only at hp
  omega
noncomputable def Nx:(Int)×(List Lnk)×(List Snd)×(Dem)×(List Snd)→List PV:=fun (hn,ls,us,d,l) => [.agg [I hn,Ax ls,Av us,I d.1,I d.2.1,I d.2.2.1,I d.2.2.2.1,I d.2.2.2.2],Av l]
noncomputable def qW:(Int)×(List Lnk)×(List Snd)×(Dem)×(List Snd)→PV:=fun (hn,ls,us,d,l)=>B (decide (GK hn ls us l d))
def qX:(Int)×(List Lnk)×(List Snd)×(Dem)×(List Snd)→Prop:=fun (hn,ls,us,d,l)=>Br hn ls us=0
noncomputable def e_ppos:Nat×Ent:=(40,.v (Ah Nx qW qX))
theorem Agg:∀i j,Nx i=Nx j→i=j:=by
 rintro ⟨hn₁,ls₁,us₁,d₁,l₁⟩ ⟨hn₂,ls₂,us₂,d₂,l₂⟩ h
 simp only[Nx,List.cons.injEq,and_true,PV.lits.injEq,PV.int.injEq,PV.agg.injEq,true_and,AM,AF]at h
 simp [Prod.ext_iff,h] <;> omega
theorem W0 (hn:Int) (ls:List Lnk) (us:List Snd) (d:Dem) (l:List Snd):Ah Nx qW qX [.agg [I hn,Ax ls,Av us,I d.1,I d.2.1,I d.2.2.1,I d.2.2.2.1,I d.2.2.2.2],Av l]=@ite (Option (PV)) (Br hn ls us=0) (Classical.propDecidable _) (some (B (decide (GK hn ls us l d)))) none:=BM Agg (hn,ls,us,d,l)
def qY:Prop:=∀(hn:Int) (ls:List Lnk) (us:List Snd) (d:Dem) (l:List Snd) (h:Br hn ls us=0) ,VC Try.prog 40 [.agg [I hn,Ax ls,Av us,I d.1,I d.2.1,I d.2.2.1,I d.2.2.2.1,I d.2.2.2.2],Av l] (B (decide (GK hn ls us l d)))
def qZ:Prop:=AL Try.prog e_ppos.1 e_ppos.2
theorem Agh (c:qY):qZ:=Ap fun⟨hn,ls,us,d,l⟩ h=>c hn ls us d l h
theorem Agi:qY:=by
 intro hn ls us d l hf
 refine A3 AP (l := [e_serves,e_cntS]) ((Ad nX (Ad Age An))) [] []  Try.func40 rfl (by decide +kernel) (N:=16) rfl (by simp) rfl (by kernel_rfl) fun hs=>?_
 simp only[AJ,PV.small,List.length_map,and_true,true_and]at hs
 have sp:=nU (hn:=hn) (ls:=ls) (l:=l) (d:=d)
 dsimp only[Ax,Av,B7]at sp
 by_cases h:A6 hn ls l d=0
 ·have hov:=Agf (us:=us) hf h
  rw [h]at sp
  by_cases c:0≤IC (ovM hn ls us) l
  ·rw [decide_eq_false (fun g=>(hov.2 g.2) c)]
   simp +contextual (maxSteps:=4000000) only[↓bdD,bdP,Nat.reduceLT,Nat.reduceBEq,Ai,Nat.reduceEqDiff,Nat.reduceAdd,Nat.reduceLeDiff,st0,↓reduceIte,e_serves,e_cntS,qT,Ac,Ab,Try.f40,Au,AB,AQ,Bd,Xj,sp,c]
  ·rw [decide_eq_true ⟨h,hov.1 c⟩]
   simp +contextual (maxSteps:=4000000) only[↓bdD,bdP,Nat.reduceLT,Nat.reduceBEq,Ai,Nat.reduceEqDiff,Nat.reduceAdd,Nat.reduceLeDiff,st0,↓reduceIte,e_serves,e_cntS,qT,Ac,Ab,Try.f40,Au,AB,AQ,Bd,Xj,sp,c]
 ·rw [decide_eq_false (fun g=>h g.1)]
  generalize A6 hn ls l d=r at *
  simp +contextual (maxSteps:=4000000) only[↓bdD,bdP,Nat.reduceLT,Nat.reduceBEq,Ai,Nat.reduceAdd,Nat.reduceLeDiff,st0,↓reduceIte,e_serves,e_cntS,Ac,Ab,Try.f40,Au,AB,AQ,Bd,sp,h]
theorem Agj:qZ:=Agh Agi
noncomputable def Ny:(Int)×(List Lnk)×(List Snd)×(Dem)×(List Snd)→List PV:=fun (hn,ls,us,d,l) => [.agg [I hn,Ax ls,Av us,I d.1,I d.2.1,I d.2.2.1,I d.2.2.2.1,I d.2.2.2.2],Av l]
noncomputable def rB:(Int)×(List Lnk)×(List Snd)×(Dem)×(List Snd)→PV:=fun (hn,ls,us,d,l)=>B (decide (GK hn ls us l d))
def rC:(Int)×(List Lnk)×(List Snd)×(Dem)×(List Snd)→Prop:=fun (hn,ls,us,d,l)=>Br hn ls us=0
noncomputable def e_rpos:Nat×Ent:=(26,.v (Ah Ny rB rC))
theorem Agk:∀i j,Ny i=Ny j→i=j:=by
 rintro ⟨hn₁,ls₁,us₁,d₁,l₁⟩ ⟨hn₂,ls₂,us₂,d₂,l₂⟩ h
 simp only[Ny,List.cons.injEq,and_true,PV.lits.injEq,PV.int.injEq,PV.agg.injEq,true_and,AM,AF]at h
 simp [Prod.ext_iff,h] <;> omega
theorem K4 (hn:Int) (ls:List Lnk) (us:List Snd) (d:Dem) (l:List Snd):Ah Ny rB rC [.agg [I hn,Ax ls,Av us,I d.1,I d.2.1,I d.2.2.1,I d.2.2.2.1,I d.2.2.2.2],Av l]=@ite (Option (PV)) (Br hn ls us=0) (Classical.propDecidable _) (some (B (decide (GK hn ls us l d)))) none:=BM Agk (hn,ls,us,d,l)
def rD:Prop:=∀(hn:Int) (ls:List Lnk) (us:List Snd) (d:Dem) (l:List Snd) (h:Br hn ls us=0) ,VC Try.prog 26 [.agg [I hn,Ax ls,Av us,I d.1,I d.2.1,I d.2.2.1,I d.2.2.2.1,I d.2.2.2.2],Av l] (B (decide (GK hn ls us l d)))
def rF:Prop:=AL Try.prog e_rpos.1 e_rpos.2
theorem Agl (c:rD):rF:=Ap fun⟨hn,ls,us,d,l⟩ h=>c hn ls us d l h
theorem Agm:rD:=by
 intro hn ls us d l hf
 refine A3 AP (l := [e_rserves,e_pleft]) ((Ad cO (Ad Aav An))) [] []  Try.func26 rfl (by decide +kernel) (N:=39) rfl (by simp) rfl (by kernel_rfl) fun hs=>?_
 simp only[AJ,PV.small,List.length_map,and_true,true_and]at hs
 have hsl:=hs.2.1
 have sp:=cL (hn:=hn) (ls:=ls) (l:=l) (d:=d)
 dsimp only[Ax,Av,B7]at sp
 by_cases h:A6 hn ls l d=0
 case neg =>
  rw [decide_eq_false (fun g=>h g.1)]
  generalize A6 hn ls l d=r at *
  simp +contextual (maxSteps:=4000000) only[↓bdD,bdP,Nat.reduceLT,Nat.reduceBEq,Ai,Nat.reduceAdd,Nat.reduceLeDiff,st0,↓reduceIte,e_rserves,e_pleft,Ac,Ab,Try.f26,Au,AB,AQ,Bd,sp,h]
 have okl:=(serves_iff.1 h).ok
 rw [h]at sp
 generalize hr:decide (GK hn ls us l d)=r
 simp +contextual (maxSteps:=4000000) only[↓bdD,bdP,Nat.reduceLT,Nat.reduceBEq,Nat.reduceAdd,Nat.reduceLeDiff,st0,↓reduceIte,e_rserves,e_pleft,Ac,Ab,Try.f26,Au,AB,AQ,Bd,sp]
 refine Ay [4,5,6,14,15,16,17,18,19,20,21,22,23,24,25,26,27,28,29,30,31,32,33,34,35,36,37,38] l.length (fun k ρ st'=>ρ 5=I k∧∀i,i<k→(l.getD i dS).2.2≤lfM ls us (l.getD i dS).1 (l.getD i dS).2.1) (.refl _) ?_ ?_
 ·simp +contextual (maxSteps:=4000000) only[↓bdD,bdP]
  exact fun j hj=>absurd hj (by omega)
 rintro k ρ ⟨ob,M⟩ hk ⟨h5,hI⟩
 by_cases hlt:k<l.length
 ·have hwk:IntKind.i64.wrap ((k:Int)+1)=((k+1:Nat):Int):=by rw[Aj (by omega) (by omega)];omega
  have e1:=okl.link k hlt
  have e2:=okl.tick k hlt
  have sq:=Aas (hn:=hn) (ls:=ls) (us:=us) (d:=d) (link:=(l.getD k dS).1) (tick:=(l.getD k dS).2.1)
  rw [if_pos ⟨hf,e1.1,e1.2,e2.1⟩]at sq
  dsimp only[Ax,Av]at sq
  by_cases c:lfM ls us (l.getD k dS).1 (l.getD k dS).2.1<(l.getD k dS).2.2
  ·rw [decide_eq_false (fun g=>by have:=g.2 k hlt;omega)]at hr
   subst hr
   simp +contextual (maxSteps:=4000000) only[↓bdD,bdP,Nat.reduceLT,Nat.reduceBEq,Ai,Nat.reduceEqDiff,Nat.reduceAdd,↓reduceIte,Aw,Ac,Ab,ty3,AB,Bd,Bv,h5,hlt,sq,c]
  ·simp +contextual (maxSteps:=4000000) only[↓bdD,bdP,Nat.reduceLT,Nat.reduceBEq,Nat.reduceEqDiff,Nat.reduceAdd,↓reduceIte,Aw,Ac,Ab,ty3,AB,Bd,Bv,h5,hlt,hwk,sq,c]
   intro i hi
   by_cases e:i=k
   ·subst e;omega
   ·exact hI i (by omega)
 ·have e:k=l.length:=by omega
  subst e
  rw [decide_eq_true ⟨h,hI⟩]at hr
  subst hr
  simp +contextual (maxSteps:=4000000) only[↓bdD,bdP,Nat.reduceLT,Nat.reduceBEq,Ai,Nat.reduceAdd,↓reduceIte,AB,h5]
theorem Agn:rF:=Agl Agm
end Sim
