/- What functions of this seat compute, by values: contracts (lemmas of the statement's proof, under the conditions that each names). -/
import Derived.Test.YtppljhpecoeakaaQXD
set_option maxRecDepth 10000
set_option maxHeartbeats 4000000
set_option linter.unusedVariables false
set_option linter.unusedSimpArgs false
namespace Sim
open Go Go.Proofs
attribute [local congr] Ap Aq Al AC As Ar Av
end Sim
namespace Sim
open Go Go.Proofs
attribute [local congr] Ap Aq Al AC As Ar Av
def ovM (hn:Int) (ls:List Lnk) (us:List Snd) (s:Snd):Bool:=decide ((D0 hn ls us s.1 s.2.1).2≠0∨(D0 hn ls us s.1 s.2.1).1<s.2.2)
noncomputable def Nd:(Int)×(List Lnk)×(List Snd)×(Dem)×(Snd)→List PV:=fun (hn,ls,us,d,s) => [GL s,.vptr [I hn,Aw ls,Az us,I d.1,I d.2.1,I d.2.2.1,I d.2.2.2.1,I d.2.2.2.2] 0]
noncomputable def oI:(Int)×(List Lnk)×(List Snd)×(Dem)×(Snd)→PV:=fun (hn,ls,us,d,s)=>B (ovM hn ls us s)
def oJ:(Int)×(List Lnk)×(List Snd)×(Dem)×(Snd)→Prop:=fun (hn,ls,us,d,s)=>True
noncomputable def e_pos1:Nat×Ent:=(60,.v (Ag Nd oI oJ))
theorem Aep:∀i j,Nd i=Nd j→i=j:=by
 rintro ⟨hn₁,ls₁,us₁,d₁,s₁⟩ ⟨hn₂,ls₂,us₂,d₂,s₂⟩ h
 simp only[Nd,List.cons.injEq,and_true,PV.lits.injEq,PV.int.injEq,PV.agg.injEq,PV.vptr.injEq,true_and,AN,AD]at h
 simp [Prod.ext_iff,h] <;> omega
theorem Aeq (hn:Int) (ls:List Lnk) (us:List Snd) (d:Dem) (s:Snd):Ag Nd oI oJ [GL s,.vptr [I hn,Aw ls,Az us,I d.1,I d.2.1,I d.2.2.1,I d.2.2.2.1,I d.2.2.2.2] 0]=some (B (ovM hn ls us s)):=Ax Aep (i:=(hn,ls,us,d,s)) trivial
def oK:Prop:=∀(hn:Int) (ls:List Lnk) (us:List Snd) (d:Dem) (s:Snd) ,VC Try.prog 60 [GL s,.vptr [I hn,Aw ls,Az us,I d.1,I d.2.1,I d.2.2.1,I d.2.2.2.1,I d.2.2.2.2] 0] (B (ovM hn ls us s))
def oL:Prop:=AL Try.prog e_pos1.1 e_pos1.2
theorem Aer (c:oK):oL:=At fun⟨hn,ls,us,d,s⟩ h=>c hn ls us d s
theorem Aes:oK:=by
 intro hn ls us d s
 refine A5 AO (l := [e_left]) ((Ad Adb An)) [] []  Try.func60 rfl (by decide +kernel) (N:=26) rfl (by simp) rfl (by kernel_rfl) fun hs=>?_
 simp only[AI,PV.small,List.length_map,and_true,true_and]at hs
 have sp:=Ac8 (hn:=hn) (ls:=ls) (l:=us) (link:=s.1) (tick:=s.2.1)
 unfold ovM
 generalize (D0 hn ls us s.1 s.2.1).2=e at *
 generalize (D0 hn ls us s.1 s.2.1).1=x at *
 dsimp only[Aw,Az]at sp
 by_cases h1:e=0
 ·by_cases h2:x<s.2.2
  ·rw [decide_eq_true (.inr h2)]
   simp +contextual (maxSteps:=4000000) only[↓bdD,bdP,Nat.reduceLT,Nat.reduceBEq,Ah,Nat.reduceAdd,Nat.reduceLeDiff,st0,↓reduceIte,e_left,Ac,Ab,Try.f60,ty3,Au,AJ,A8,BT,sp,h1,h2]
  ·rw [decide_eq_false (by omega)]
   simp +contextual (maxSteps:=4000000) only[↓bdD,bdP,Nat.reduceLT,Nat.reduceBEq,Ah,Nat.reduceAdd,Nat.reduceLeDiff,st0,↓reduceIte,e_left,Ac,Ab,Try.f60,ty3,Au,AJ,A8,BT,sp,h1,h2]
 ·rw [decide_eq_true (.inl h1)]
  simp +contextual (maxSteps:=4000000) only[↓bdD,bdP,Nat.reduceLT,Nat.reduceBEq,Ah,Nat.reduceAdd,Nat.reduceLeDiff,st0,↓reduceIte,e_left,Ac,Ab,Try.f60,ty3,Au,AJ,A8,BT,sp,h1]
theorem Aet:oL:=Aer Aes
def Ik {α:Type} (p:α→Bool) (y:List α):Int:=if y.findIdx p<y.length then (y.findIdx p:Int)else -1
theorem oM {α:Type} {p:α→Bool} {d:α} {y:List α} {k:Nat} (hk:k<y.length) (h:p (y.getD k d)=true) (g:∀j,j<k→p (y.getD j d)=false):Ik p y=k:=by
 have e:y.findIdx p=k:=by
  rw [List.findIdx_eq hk]
  refine ⟨?_,fun j hj=>?_⟩
  ·have : y.getD k d=y[k]:=by simp[hk]
   rw [←this];exact h
  ·have hjl:j<y.length:=by omega
   have : y.getD j d=y[j]:=by simp[hjl]
   rw [←this];exact g j hj
 unfold Ik
 rw [e,if_pos hk]
theorem bX {α:Type} {p:α→Bool} {d:α} {y:List α} (g:∀j,j<y.length→p (y.getD j d)=false):Ik p y = -1:=by
 have e:y.findIdx p=y.length:=by
  rw [List.findIdx_eq_length]
  intro x hx
  obtain ⟨j,hj,rfl⟩:=List.getElem_of_mem hx
  have : y.getD j d=y[j]:=by simp[hj]
  rw [←this];exact g j hj
 unfold Ik
 rw [e,if_neg (by omega)]
theorem oN {α:Type} {p:α→Bool} {y:List α}:0≤Ik p y↔∃x∈y,p x=true:=by
 rw [←List.findIdx_lt_length]
 unfold Ik
 constructor
 ·intro h
  split at h
  ·assumption
  ·omega
 ·intro h
  rw [if_pos h];omega
noncomputable def Nf:(Int)×(List Lnk)×(List Snd)×(Dem)×(List Snd)→List PV:=fun (hn,ls,us,d,l) => [Az l,.func (.func 60) [] [.vptr [I hn,Aw ls,Az us,I d.1,I d.2.1,I d.2.2.1,I d.2.2.2.1,I d.2.2.2.2] 0]]
noncomputable def oO:(Int)×(List Lnk)×(List Snd)×(Dem)×(List Snd)→PV:=fun (hn,ls,us,d,l)=>I (Ik (ovM hn ls us) l)
def oP:(Int)×(List Lnk)×(List Snd)×(Dem)×(List Snd)→Prop:=fun (hn,ls,us,d,l)=>True
noncomputable def e_idxS:Nat×Ent:=(72,.v (Ag Nf oO oP))
theorem Aeu:∀i j,Nf i=Nf j→i=j:=by
 rintro ⟨hn₁,ls₁,us₁,d₁,l₁⟩ ⟨hn₂,ls₂,us₂,d₂,l₂⟩ h
 simp only[Nf,List.cons.injEq,and_true,PV.lits.injEq,PV.int.injEq,PV.func.injEq,PV.vptr.injEq,true_and,AN,AD]at h
 simp [Prod.ext_iff,h] <;> omega
theorem oQ (hn:Int) (ls:List Lnk) (us:List Snd) (d:Dem) (l:List Snd):Ag Nf oO oP [Az l,.func (.func 60) [] [.vptr [I hn,Aw ls,Az us,I d.1,I d.2.1,I d.2.2.1,I d.2.2.2.1,I d.2.2.2.2] 0]]=some (I (Ik (ovM hn ls us) l)):=Ax Aeu (i:=(hn,ls,us,d,l)) trivial
def oR:Prop:=∀(hn:Int) (ls:List Lnk) (us:List Snd) (d:Dem) (l:List Snd) ,VC Try.prog 72 [Az l,.func (.func 60) [] [.vptr [I hn,Aw ls,Az us,I d.1,I d.2.1,I d.2.2.1,I d.2.2.2.1,I d.2.2.2.2] 0]] (I (Ik (ovM hn ls us) l))
def oS:Prop:=AL Try.prog e_idxS.1 e_idxS.2
theorem Aev (c:oR):oS:=At fun⟨hn,ls,us,d,l⟩ h=>c hn ls us d l
theorem Aew:oR:=by
 intro hn ls us d l
 refine A5 AO (l := [e_pos1]) ((Ad Aet An)) [] []  Try.func72 rfl (by decide +kernel) (N:=19) rfl (by simp) rfl (by kernel_rfl) fun hs=>?_
 simp only[AI,PV.small,List.length_map,and_true]at hs
 have hsl:=hs.1
 have sp:=fun s=>Aeq (hn:=hn) (ls:=ls) (us:=us) (d:=d) (s:=s)
 generalize hr:Ik (ovM hn ls us) l=r
 simp +contextual (maxSteps:=4000000) only[↓bdD,bdP,Nat.reduceLT,Nat.reduceBEq,Nat.reduceAdd,st0,↓reduceIte,e_pos1,Try.f72,AJ]
 refine Ay [4,5,8,9,10,11,12,13,14,15,16,17,18] l.length (fun k ρ st'=>ρ 8=I k∧∀j,j<k→ovM hn ls us (l.getD j dS)=false) (.refl _) ?_ ?_
 ·simp +contextual (maxSteps:=4000000) only[↓bdD,bdP]
  exact fun j hj=>absurd hj (by omega)
 rintro k ρ ⟨ob,M⟩ hk ⟨h8,hI⟩
 by_cases hlt:k<l.length
 ·have hwk:IntKind.i64.wrap ((k:Int)+1)=((k+1:Nat):Int):=by rw[Ai (by omega) (by omega)];omega
  have spk:=sp (l.getD k dS)
  dsimp only[GL,Aw,Az]at spk
  cases hp:ovM hn ls us (l.getD k dS)
  ·rw [hp]at spk
   simp +contextual (maxSteps:=4000000) only[↓bdD,bdP,Nat.reduceLT,Nat.reduceBEq,Nat.reduceAdd,↓reduceIte,AH,Ac,Ab,AJ,BT,h8,hlt,hwk,spk]
   intro j hj
   by_cases e:j=k
   ·rw [e];exact hp
   ·exact hI j (by omega)
  ·have := oM hlt hp hI
   rw [hr]at this
   rw [hp]at spk
   simp +contextual (maxSteps:=4000000) only[↓bdD,bdP,Nat.reduceLT,Nat.reduceBEq,Ah,Nat.reduceAdd,↓reduceIte,AH,Ac,Ab,AJ,BT,h8,hlt,spk,this]
 ·have e:k=l.length:=by omega
  subst e
  have := bX hI
  rw [hr]at this
  simp +contextual (maxSteps:=4000000) only[↓bdD,bdP,Nat.reduceLT,Nat.reduceBEq,Ah,↓reduceIte,h8,this]
theorem Aex:oS:=Aev Aew
noncomputable def Ng:(Int)×(List Lnk)×(List Snd)×(Dem)×(List Snd)→List PV:=fun (hn,ls,us,d,l) => [Az l,.func (.func 60) [] [.vptr [I hn,Aw ls,Az us,I d.1,I d.2.1,I d.2.2.1,I d.2.2.2.1,I d.2.2.2.2] 0]]
noncomputable def oT:(Int)×(List Lnk)×(List Snd)×(Dem)×(List Snd)→PV:=fun (hn,ls,us,d,l)=>B (decide (0≤Ik (ovM hn ls us) l))
def oU:(Int)×(List Lnk)×(List Snd)×(Dem)×(List Snd)→Prop:=fun (hn,ls,us,d,l)=>True
noncomputable def e_cntS:Nat×Ent:=(59,.v (Ag Ng oT oU))
theorem Aey:∀i j,Ng i=Ng j→i=j:=by
 rintro ⟨hn₁,ls₁,us₁,d₁,l₁⟩ ⟨hn₂,ls₂,us₂,d₂,l₂⟩ h
 simp only[Ng,List.cons.injEq,and_true,PV.lits.injEq,PV.int.injEq,PV.func.injEq,PV.vptr.injEq,true_and,AN,AD]at h
 simp [Prod.ext_iff,h] <;> omega
theorem oV (hn:Int) (ls:List Lnk) (us:List Snd) (d:Dem) (l:List Snd):Ag Ng oT oU [Az l,.func (.func 60) [] [.vptr [I hn,Aw ls,Az us,I d.1,I d.2.1,I d.2.2.1,I d.2.2.2.1,I d.2.2.2.2] 0]]=some (B (decide (0≤Ik (ovM hn ls us) l))):=Ax Aey (i:=(hn,ls,us,d,l)) trivial
def oW:Prop:=∀(hn:Int) (ls:List Lnk) (us:List Snd) (d:Dem) (l:List Snd) ,VC Try.prog 59 [Az l,.func (.func 60) [] [.vptr [I hn,Aw ls,Az us,I d.1,I d.2.1,I d.2.2.1,I d.2.2.2.1,I d.2.2.2.2] 0]] (B (decide (0≤Ik (ovM hn ls us) l)))
def oX:Prop:=AL Try.prog e_cntS.1 e_cntS.2
theorem Aez (c:oW):oX:=At fun⟨hn,ls,us,d,l⟩ h=>c hn ls us d l
theorem Ae0:oW:=by
 intro hn ls us d y
 refine A5 AO (l := [e_idxS]) ((Ad Aex An)) [] []  Try.func59 rfl (by decide +kernel) (N:=9) rfl (by simp) rfl (by kernel_rfl) fun hs=>?_
 simp only[AI,PV.small,List.length_map,and_true]at hs
 by_cases h:0≤Ik (ovM hn ls us) y
 ·simp +contextual (maxSteps:=4000000) only[↓bdD,bdP,Nat.reduceLT,Nat.reduceBEq,Ah,Nat.reduceAdd,st0,↓reduceIte,e_idxS,oQ,Ac,Ab,Try.f59,AJ,WH,h]
 ·simp +contextual (maxSteps:=4000000) only[↓bdD,bdP,Nat.reduceLT,Nat.reduceBEq,Ah,Nat.reduceAdd,st0,↓reduceIte,e_idxS,oQ,Ac,Ab,Try.f59,AJ,WH,h]
theorem Ae1:oX:=Aez Ae0
def Wl (hn:Int) (ls:List Lnk) (us l:List Snd) (d:Dem):Prop:=BW hn ls l d=0∧∀i,i<l.length→(l.getD i dS).2.2≤lfM ls us (l.getD i dS).1 (l.getD i dS).2.1
instance {hn:Int} {ls:List Lnk} {us l:List Snd} {d:Dem}:Decidable (Wl hn ls us l d):=inferInstanceAs (Decidable (_∧_))
theorem Ae2 {hn:Int} {ls:List Lnk} {us l:List Snd} {d:Dem} (hf:Bz hn ls us=0) (h:BW hn ls l d=0):(¬0≤Ik (ovM hn ls us) l)↔∀i,i<l.length→(l.getD i dS).2.2≤lfM ls us (l.getD i dS).1 (l.getD i dS).2.1:=by
 obtain ⟨ok,_⟩:=B6 hf
 have okl:=(serves_iff.1 h).ok
 have hrz:=right_zero.2 ok
 have key:∀i,i<l.length→D0 hn ls us (l.getD i dS).1 (l.getD i dS).2.1=(lfM ls us (l.getD i dS).1 (l.getD i dS).2.1,0):=fun i hi=>by
  have e1:=okl.link i hi
  have e2:=okl.tick i hi
  unfold D0
  rw [if_neg (fun g=>g hrz),if_neg (by omega)];rfl
 rw [oN]
 constructor
 ·intro g i hi
  refine Classical.byContradiction fun c=>g ⟨l.getD i dS,?_,?_⟩
  ·rw [List.getD_eq_getElem?_getD,List.getElem?_eq_getElem hi];exact List.getElem_mem _
  ·unfold ovM
   rw [key i hi,decide_eq_true_eq]
   exact .inr (by dsimp only;omega)
 ·rintro g ⟨x,hx,hp⟩
  obtain ⟨i,hi,rfl⟩:=List.getElem_of_mem hx
  have e:l.getD i dS=l[i]:=by simp[hi]
  have := g i hi
  have k:=key i hi
  rw [e]at this k
  unfold ovM at hp
  rw [k,decide_eq_true_eq]at hp
  dsimp only at hp
  omega
noncomputable def Nh:(Int)×(List Lnk)×(List Snd)×(Dem)×(List Snd)→List PV:=fun (hn,ls,us,d,l) => [.agg [I hn,Aw ls,Az us,I d.1,I d.2.1,I d.2.2.1,I d.2.2.2.1,I d.2.2.2.2],Az l]
noncomputable def oY:(Int)×(List Lnk)×(List Snd)×(Dem)×(List Snd)→PV:=fun (hn,ls,us,d,l)=>B (decide (Wl hn ls us l d))
def oZ:(Int)×(List Lnk)×(List Snd)×(Dem)×(List Snd)→Prop:=fun (hn,ls,us,d,l)=>Bz hn ls us=0
noncomputable def e_ppos:Nat×Ent:=(40,.v (Ag Nh oY oZ))
theorem Ae3:∀i j,Nh i=Nh j→i=j:=by
 rintro ⟨hn₁,ls₁,us₁,d₁,l₁⟩ ⟨hn₂,ls₂,us₂,d₂,l₂⟩ h
 simp only[Nh,List.cons.injEq,and_true,PV.lits.injEq,PV.int.injEq,PV.agg.injEq,true_and,AN,AD]at h
 simp [Prod.ext_iff,h] <;> omega
theorem Wm (hn:Int) (ls:List Lnk) (us:List Snd) (d:Dem) (l:List Snd):Ag Nh oY oZ [.agg [I hn,Aw ls,Az us,I d.1,I d.2.1,I d.2.2.1,I d.2.2.2.1,I d.2.2.2.2],Az l]=@ite (Option (PV)) (Bz hn ls us=0) (Classical.propDecidable _) (some (B (decide (Wl hn ls us l d)))) none:=BU Ae3 (hn,ls,us,d,l)
def pA:Prop:=∀(hn:Int) (ls:List Lnk) (us:List Snd) (d:Dem) (l:List Snd) (h:Bz hn ls us=0) ,VC Try.prog 40 [.agg [I hn,Aw ls,Az us,I d.1,I d.2.1,I d.2.2.1,I d.2.2.2.1,I d.2.2.2.2],Az l] (B (decide (Wl hn ls us l d)))
def pB:Prop:=AL Try.prog e_ppos.1 e_ppos.2
theorem Ae4 (c:pA):pB:=At fun⟨hn,ls,us,d,l⟩ h=>c hn ls us d l h
theorem Ae5:pA:=by
 intro hn ls us d l hf
 refine A5 AO (l := [e_serves,e_cntS]) ((Ad mC (Ad Ae1 An))) [] []  Try.func40 rfl (by decide +kernel) (N:=16) rfl (by simp) rfl (by kernel_rfl) fun hs=>?_
 simp only[AI,PV.small,List.length_map,and_true,true_and]at hs
 have sp:=lY (hn:=hn) (ls:=ls) (l:=l) (d:=d)
 dsimp only[Aw,Az,Cp]at sp
 by_cases h:BW hn ls l d=0
 ·have hov:=Ae2 (us:=us) hf h
  rw [h]at sp
  by_cases c:0≤Ik (ovM hn ls us) l
  ·rw [decide_eq_false (fun g=>(hov.2 g.2) c)]
   simp +contextual (maxSteps:=4000000) only[↓bdD,bdP,Nat.reduceLT,Nat.reduceBEq,Ah,Nat.reduceEqDiff,Nat.reduceAdd,Nat.reduceLeDiff,st0,↓reduceIte,e_serves,e_cntS,oV,Ac,Ab,Try.f40,Au,AJ,AS,A8,WH,sp,c]
  ·rw [decide_eq_true ⟨h,hov.1 c⟩]
   simp +contextual (maxSteps:=4000000) only[↓bdD,bdP,Nat.reduceLT,Nat.reduceBEq,Ah,Nat.reduceEqDiff,Nat.reduceAdd,Nat.reduceLeDiff,st0,↓reduceIte,e_serves,e_cntS,oV,Ac,Ab,Try.f40,Au,AJ,AS,A8,WH,sp,c]
 ·rw [decide_eq_false (fun g=>h g.1)]
  generalize BW hn ls l d=r at *
  simp +contextual (maxSteps:=4000000) only[↓bdD,bdP,Nat.reduceLT,Nat.reduceBEq,Ah,Nat.reduceAdd,Nat.reduceLeDiff,st0,↓reduceIte,e_serves,e_cntS,Ac,Ab,Try.f40,Au,AJ,AS,A8,sp,h]
theorem Ae6:pB:=Ae4 Ae5
end Sim
namespace Sim
open Go Go.Proofs
attribute [local congr] Ap Aq Al AC As Ar Av
def QV (hn:Int) (ls:List Lnk) (us:List Snd) (d:Dem) (l:List Snd) (y:List (List Int)):Prop:=GN hn ls us d y=0∧Wl hn ls us l d∧FO hn ls l≤J5 hn ls us d y
instance {hn:Int} {ls:List Lnk} {us:List Snd} {d:Dem} {l:List Snd} {y:List (List Int)}:Decidable (QV hn ls us d l y):=inferInstanceAs (Decidable (_∧_))
theorem zG {hn:Int} {ls:List Lnk} {us:List Snd} {d:Dem} {y:List (List Int)} (h:GN hn ls us d y=0):CN hn ls us d=0∧shE hn d y=0:=by
 unfold GN at h
 split at h
 ·contradiction
 ·rename_i c;exact⟨Classical.not_not.1 c,h⟩
noncomputable def FY:(Int)×(List Lnk)×(List Snd)×(Dem)×(List Snd)×(List (List Int))→List PV:=fun (hn,ls,us,d,l,y) => [.agg [I hn,Aw ls,Az us,I d.1,I d.2.1,I d.2.2.1,I d.2.2.2.1,I d.2.2.2.2],Az l,Fe y]
noncomputable def Pa:(Int)×(List Lnk)×(List Snd)×(Dem)×(List Snd)×(List (List Int))→PV:=fun (hn,ls,us,d,l,y)=>B (decide (QV hn ls us d l y))
def Pb:(Int)×(List Lnk)×(List Snd)×(Dem)×(List Snd)×(List (List Int))→Prop:=fun (hn,ls,us,d,l,y)=>True
noncomputable def e_paccept:Nat×Ent:=(17,.v (Ag FY Pa Pb))
theorem bY:∀i j,FY i=FY j→i=j:=by
 rintro ⟨hn₁,ls₁,us₁,d₁,l₁,y₁⟩ ⟨hn₂,ls₂,us₂,d₂,l₂,y₂⟩ h
 simp only[FY,List.cons.injEq,and_true,PV.lits.injEq,PV.int.injEq,PV.agg.injEq,true_and,AN,AD,J4]at h
 simp [Prod.ext_iff,h] <;> omega
theorem Ia (hn:Int) (ls:List Lnk) (us:List Snd) (d:Dem) (l:List Snd) (y:List (List Int)):Ag FY Pa Pb [.agg [I hn,Aw ls,Az us,I d.1,I d.2.1,I d.2.2.1,I d.2.2.2.1,I d.2.2.2.2],Az l,Fe y]=some (B (decide (QV hn ls us d l y))):=Ax bY (i:=(hn,ls,us,d,l,y)) trivial
def Pc:Prop:=∀(hn:Int) (ls:List Lnk) (us:List Snd) (d:Dem) (l:List Snd) (y:List (List Int)) ,VC Try.prog 17 [.agg [I hn,Aw ls,Az us,I d.1,I d.2.1,I d.2.2.1,I d.2.2.2.1,I d.2.2.2.2],Az l,Fe y] (B (decide (QV hn ls us d l y)))
def Pd:Prop:=AL Try.prog e_paccept.1 e_paccept.2
theorem bZ (c:Pc):Pd:=At fun⟨hn,ls,us,d,l,y⟩ h=>c hn ls us d l y
theorem cA:Pc:=by
 intro hn ls us d l y
 refine A5 AO (l := [e_pbound,e_ppos,e_cost]) ((Ad TK (Ad Ae6 (Ad Ac6 An)))) [] []  Try.func17 rfl (by decide +kernel) (N:=38) rfl (by simp) rfl (by kernel_rfl) fun hs=>?_
 simp only[AI,PV.small,List.length_map,and_true,true_and]at hs
 have sp:=J8 (hn:=hn) (ls:=ls) (us:=us) (d:=d) (y:=y)
 have sq:=Ac3 (hn:=hn) (ls:=ls) (l:=l)
 dsimp only[Aw,Az,Cp,Fe]at sp sq
 by_cases h:GN hn ls us d y=0
 case neg =>
  rw [decide_eq_false (fun g=>h g.1)]
  generalize GN hn ls us d y=r at *
  simp +contextual (maxSteps:=4000000) only[↓bdD,bdP,Nat.reduceLT,Nat.reduceBEq,Ah,Nat.reduceAdd,st0,↓reduceIte,e_pbound,e_ppos,e_cost,Ac,Ab,Dl,Try.f17,A8,BC,sp,h]
 have hf:=(C6 (pck_zero.1 (zG h).1).1).1
 rw [h]at sp
 by_cases c:Wl hn ls us l d
 case neg =>
  rw [decide_eq_false (fun g=>c g.2.1)]
  simp +contextual (maxSteps:=4000000) only[↓bdD,bdP,Nat.reduceLT,Nat.reduceBEq,Ah,Nat.reduceEqDiff,Nat.reduceAdd,st0,↓reduceIte,e_pbound,e_ppos,Wm,e_cost,Ac,Ab,Dl,Try.f17,AJ,A8,BC,sp,hf,c]
 have hz:=right_zero.2 (serves_iff.1 c.1).ok
 rw [hz]at sq
 by_cases e:FO hn ls l≤J5 hn ls us d y
 ·rw [decide_eq_true ⟨h,c,e⟩]
  simp +contextual (maxSteps:=4000000) only[↓bdD,bdP,Nat.reduceLT,Nat.reduceBEq,Ah,Nat.reduceEqDiff,Nat.reduceAdd,Nat.reduceLeDiff,st0,↓reduceIte,e_pbound,e_ppos,Wm,e_cost,Ac,Ab,Dl,Try.f17,Au,AJ,A8,BC,sp,sq,hf,c,e]
 ·rw [decide_eq_false (fun g=>e g.2.2)]
  simp +contextual (maxSteps:=4000000) only[↓bdD,bdP,Nat.reduceLT,Nat.reduceBEq,Ah,Nat.reduceEqDiff,Nat.reduceAdd,Nat.reduceLeDiff,st0,↓reduceIte,e_pbound,e_ppos,Wm,e_cost,Ac,Ab,Dl,Try.f17,Au,AJ,A8,BC,sp,sq,hf,c,e]
theorem cB:Pd:=bZ cA
end Sim
