/- What functions of this seat compute, by values: contracts (lemmas of the statement's proof, under the conditions that each names). -/
import Derived.Test.YtppljhpecoeakaaQXD
set_option maxRecDepth 10000
set_option maxHeartbeats 4000000
set_option linter.unusedVariables false
set_option linter.unusedSimpArgs false
namespace Sim
open Go Go.Proofs
attribute [local congr] An Ao Al AC Aq Ap Av
end Sim
namespace Sim
open Go Go.Proofs
attribute [local congr] An Ao Al AC Aq Ap Av
def ovM (hn:Int) (ls:List Lnk) (us:List Snd) (s:Snd):Bool:=decide ((D0 hn ls us s.1 s.2.1).2≠0∨(D0 hn ls us s.1 s.2.1).1<s.2.2)
noncomputable def Na:(Int)×(List Lnk)×(List Snd)×(Dem)×(Snd)→List PV:=fun (hn,ls,us,d,s) => [GQ s,.vptr [I hn,Az ls,AB us,I d.1,I d.2.1,I d.2.2.1,I d.2.2.2.1,I d.2.2.2.2] 0]
noncomputable def oA:(Int)×(List Lnk)×(List Snd)×(Dem)×(Snd)→PV:=fun (hn,ls,us,d,s)=>B (ovM hn ls us s)
def oB:(Int)×(List Lnk)×(List Snd)×(Dem)×(Snd)→Prop:=fun (hn,ls,us,d,s)=>True
noncomputable def e_pos1:Nat×Ent:=(60,.v (Ah Na oA oB))
theorem Adw:∀i j,Na i=Na j→i=j:=by
 rintro ⟨hn₁,ls₁,us₁,d₁,s₁⟩ ⟨hn₂,ls₂,us₂,d₂,s₂⟩ h
 simp only[Na,List.cons.injEq,and_true,PV.lits.injEq,PV.int.injEq,PV.agg.injEq,PV.vptr.injEq,true_and,AU,AG]at h
 simp [Prod.ext_iff,h] <;> omega
theorem Adx (hn:Int) (ls:List Lnk) (us:List Snd) (d:Dem) (s:Snd):Ah Na oA oB [GQ s,.vptr [I hn,Az ls,AB us,I d.1,I d.2.1,I d.2.2.1,I d.2.2.2.1,I d.2.2.2.2] 0]=some (B (ovM hn ls us s)):=Ay Adw (i:=(hn,ls,us,d,s)) trivial
def oC:Prop:=∀(hn:Int) (ls:List Lnk) (us:List Snd) (d:Dem) (s:Snd) ,VC Try.prog 60 [GQ s,.vptr [I hn,Az ls,AB us,I d.1,I d.2.1,I d.2.2.1,I d.2.2.2.1,I d.2.2.2.2] 0] (B (ovM hn ls us s))
def oD:Prop:=AN Try.prog e_pos1.1 e_pos1.2
theorem Ady (c:oC):oD:=At fun⟨hn,ls,us,d,s⟩ h=>c hn ls us d s
theorem Adz:oC:=by
 intro hn ls us d s
 refine A5 AR (l := [e_left]) ((Ae Acf As)) [] []  Try.func60 rfl (by decide +kernel) (N:=26) rfl (by simp) rfl (by kernel_rfl) fun hs=>?_
 simp only[AI,PV.small,List.length_map,and_true,true_and]at hs
 have sp:=Acc (hn:=hn) (ls:=ls) (l:=us) (link:=s.1) (tick:=s.2.1)
 unfold ovM
 generalize (D0 hn ls us s.1 s.2.1).2=e at *
 generalize (D0 hn ls us s.1 s.2.1).1=x at *
 dsimp only[Az,AB]at sp
 by_cases h1:e=0
 ·by_cases h2:x<s.2.2
  ·rw [decide_eq_true (.inr h2)]
   simp +contextual (maxSteps:=4000000) only[↓bdD,bdP,Nat.reduceLT,Nat.reduceBEq,Ag,Nat.reduceAdd,Nat.reduceLeDiff,st0,↓reduceIte,e_left,Ac,Ab,Try.f60,ty3,Au,AF,Bl,BZ,sp,h1,h2]
  ·rw [decide_eq_false (by omega)]
   simp +contextual (maxSteps:=4000000) only[↓bdD,bdP,Nat.reduceLT,Nat.reduceBEq,Ag,Nat.reduceAdd,Nat.reduceLeDiff,st0,↓reduceIte,e_left,Ac,Ab,Try.f60,ty3,Au,AF,Bl,BZ,sp,h1,h2]
 ·rw [decide_eq_true (.inl h1)]
  simp +contextual (maxSteps:=4000000) only[↓bdD,bdP,Nat.reduceLT,Nat.reduceBEq,Ag,Nat.reduceAdd,Nat.reduceLeDiff,st0,↓reduceIte,e_left,Ac,Ab,Try.f60,ty3,Au,AF,Bl,BZ,sp,h1]
theorem Ad0:oD:=Ady Adz
def Io {α:Type} (p:α→Bool) (y:List α):Int:=if y.findIdx p<y.length then (y.findIdx p:Int)else -1
theorem oE {α:Type} {p:α→Bool} {d:α} {y:List α} {k:Nat} (hk:k<y.length) (h:p (y.getD k d)=true) (g:∀j,j<k→p (y.getD j d)=false):Io p y=k:=by
 have e:y.findIdx p=k:=by
  rw [List.findIdx_eq hk]
  refine ⟨?_,fun j hj=>?_⟩
  ·have : y.getD k d=y[k]:=by simp[hk]
   rw [←this];exact h
  ·have hjl:j<y.length:=by omega
   have : y.getD j d=y[j]:=by simp[hjl]
   rw [←this];exact g j hj
 unfold Io
 rw [e,if_pos hk]
theorem bH {α:Type} {p:α→Bool} {d:α} {y:List α} (g:∀j,j<y.length→p (y.getD j d)=false):Io p y = -1:=by
 have e:y.findIdx p=y.length:=by
  rw [List.findIdx_eq_length]
  intro x hx
  obtain ⟨j,hj,rfl⟩:=List.getElem_of_mem hx
  have : y.getD j d=y[j]:=by simp[hj]
  rw [←this];exact g j hj
 unfold Io
 rw [e,if_neg (by omega)]
theorem oF {α:Type} {p:α→Bool} {y:List α}:0≤Io p y↔∃x∈y,p x=true:=by
 rw [←List.findIdx_lt_length]
 unfold Io
 constructor
 ·intro h
  split at h
  ·assumption
  ·omega
 ·intro h
  rw [if_pos h];omega
noncomputable def Nb:(Int)×(List Lnk)×(List Snd)×(Dem)×(List Snd)→List PV:=fun (hn,ls,us,d,l) => [AB l,.func (.func 60) [] [.vptr [I hn,Az ls,AB us,I d.1,I d.2.1,I d.2.2.1,I d.2.2.2.1,I d.2.2.2.2] 0]]
noncomputable def oG:(Int)×(List Lnk)×(List Snd)×(Dem)×(List Snd)→PV:=fun (hn,ls,us,d,l)=>I (Io (ovM hn ls us) l)
def oH:(Int)×(List Lnk)×(List Snd)×(Dem)×(List Snd)→Prop:=fun (hn,ls,us,d,l)=>True
noncomputable def e_idxS:Nat×Ent:=(72,.v (Ah Nb oG oH))
theorem Ad1:∀i j,Nb i=Nb j→i=j:=by
 rintro ⟨hn₁,ls₁,us₁,d₁,l₁⟩ ⟨hn₂,ls₂,us₂,d₂,l₂⟩ h
 simp only[Nb,List.cons.injEq,and_true,PV.lits.injEq,PV.int.injEq,PV.func.injEq,PV.vptr.injEq,true_and,AU,AG]at h
 simp [Prod.ext_iff,h] <;> omega
theorem oI (hn:Int) (ls:List Lnk) (us:List Snd) (d:Dem) (l:List Snd):Ah Nb oG oH [AB l,.func (.func 60) [] [.vptr [I hn,Az ls,AB us,I d.1,I d.2.1,I d.2.2.1,I d.2.2.2.1,I d.2.2.2.2] 0]]=some (I (Io (ovM hn ls us) l)):=Ay Ad1 (i:=(hn,ls,us,d,l)) trivial
def oJ:Prop:=∀(hn:Int) (ls:List Lnk) (us:List Snd) (d:Dem) (l:List Snd) ,VC Try.prog 72 [AB l,.func (.func 60) [] [.vptr [I hn,Az ls,AB us,I d.1,I d.2.1,I d.2.2.1,I d.2.2.2.1,I d.2.2.2.2] 0]] (I (Io (ovM hn ls us) l))
def oK:Prop:=AN Try.prog e_idxS.1 e_idxS.2
theorem Ad2 (c:oJ):oK:=At fun⟨hn,ls,us,d,l⟩ h=>c hn ls us d l
theorem Ad3:oJ:=by
 intro hn ls us d l
 refine A5 AR (l := [e_pos1]) ((Ae Ad0 As)) [] []  Try.func72 rfl (by decide +kernel) (N:=19) rfl (by simp) rfl (by kernel_rfl) fun hs=>?_
 simp only[AI,PV.small,List.length_map,and_true]at hs
 have hsl:=hs.1
 have sp:=fun s=>Adx (hn:=hn) (ls:=ls) (us:=us) (d:=d) (s:=s)
 generalize hr:Io (ovM hn ls us) l=r
 simp +contextual (maxSteps:=4000000) only[↓bdD,bdP,Nat.reduceLT,Nat.reduceBEq,Nat.reduceAdd,st0,↓reduceIte,e_pos1,Try.f72,AF]
 refine AA [4,5,8,9,10,11,12,13,14,15,16,17,18] l.length (fun k ρ st'=>ρ 8=I k∧∀j,j<k→ovM hn ls us (l.getD j dS)=false) (.refl _) ?_ ?_
 ·simp +contextual (maxSteps:=4000000) only[↓bdD,bdP]
  exact fun j hj=>absurd hj (by omega)
 rintro k ρ ⟨ob,M⟩ hk ⟨h8,hI⟩
 by_cases hlt:k<l.length
 ·have hwk:IntKind.i64.wrap ((k:Int)+1)=((k+1:Nat):Int):=by rw[Aj (by omega) (by omega)];omega
  have spk:=sp (l.getD k dS)
  dsimp only[GQ,Az,AB]at spk
  cases hp:ovM hn ls us (l.getD k dS)
  ·rw [hp]at spk
   simp +contextual (maxSteps:=4000000) only[↓bdD,bdP,Nat.reduceLT,Nat.reduceBEq,Nat.reduceAdd,↓reduceIte,AJ,Ac,Ab,AF,BZ,h8,hlt,hwk,spk]
   intro j hj
   by_cases e:j=k
   ·rw [e];exact hp
   ·exact hI j (by omega)
  ·have := oE hlt hp hI
   rw [hr]at this
   rw [hp]at spk
   simp +contextual (maxSteps:=4000000) only[↓bdD,bdP,Nat.reduceLT,Nat.reduceBEq,Ag,Nat.reduceAdd,↓reduceIte,AJ,Ac,Ab,AF,BZ,h8,hlt,spk,this]
 ·have e:k=l.length:=by omega
  subst e
  have := bH hI
  rw [hr]at this
  simp +contextual (maxSteps:=4000000) only[↓bdD,bdP,Nat.reduceLT,Nat.reduceBEq,Ag,↓reduceIte,h8,this]
theorem Ad4:oK:=Ad2 Ad3
noncomputable def Nc:(Int)×(List Lnk)×(List Snd)×(Dem)×(List Snd)→List PV:=fun (hn,ls,us,d,l) => [AB l,.func (.func 60) [] [.vptr [I hn,Az ls,AB us,I d.1,I d.2.1,I d.2.2.1,I d.2.2.2.1,I d.2.2.2.2] 0]]
noncomputable def oL:(Int)×(List Lnk)×(List Snd)×(Dem)×(List Snd)→PV:=fun (hn,ls,us,d,l)=>B (decide (0≤Io (ovM hn ls us) l))
def oM:(Int)×(List Lnk)×(List Snd)×(Dem)×(List Snd)→Prop:=fun (hn,ls,us,d,l)=>True
noncomputable def e_cntS:Nat×Ent:=(59,.v (Ah Nc oL oM))
theorem Ad5:∀i j,Nc i=Nc j→i=j:=by
 rintro ⟨hn₁,ls₁,us₁,d₁,l₁⟩ ⟨hn₂,ls₂,us₂,d₂,l₂⟩ h
 simp only[Nc,List.cons.injEq,and_true,PV.lits.injEq,PV.int.injEq,PV.func.injEq,PV.vptr.injEq,true_and,AU,AG]at h
 simp [Prod.ext_iff,h] <;> omega
theorem oN (hn:Int) (ls:List Lnk) (us:List Snd) (d:Dem) (l:List Snd):Ah Nc oL oM [AB l,.func (.func 60) [] [.vptr [I hn,Az ls,AB us,I d.1,I d.2.1,I d.2.2.1,I d.2.2.2.1,I d.2.2.2.2] 0]]=some (B (decide (0≤Io (ovM hn ls us) l))):=Ay Ad5 (i:=(hn,ls,us,d,l)) trivial
def oO:Prop:=∀(hn:Int) (ls:List Lnk) (us:List Snd) (d:Dem) (l:List Snd) ,VC Try.prog 59 [AB l,.func (.func 60) [] [.vptr [I hn,Az ls,AB us,I d.1,I d.2.1,I d.2.2.1,I d.2.2.2.1,I d.2.2.2.2] 0]] (B (decide (0≤Io (ovM hn ls us) l)))
def oP:Prop:=AN Try.prog e_cntS.1 e_cntS.2
theorem Ad6 (c:oO):oP:=At fun⟨hn,ls,us,d,l⟩ h=>c hn ls us d l
theorem Ad7:oO:=by
 intro hn ls us d y
 refine A5 AR (l := [e_idxS]) ((Ae Ad4 As)) [] []  Try.func59 rfl (by decide +kernel) (N:=9) rfl (by simp) rfl (by kernel_rfl) fun hs=>?_
 simp only[AI,PV.small,List.length_map,and_true]at hs
 by_cases h:0≤Io (ovM hn ls us) y
 ·simp +contextual (maxSteps:=4000000) only[↓bdD,bdP,Nat.reduceLT,Nat.reduceBEq,Ag,Nat.reduceAdd,st0,↓reduceIte,e_idxS,oI,Ac,Ab,Try.f59,AF,Wx,h]
 ·simp +contextual (maxSteps:=4000000) only[↓bdD,bdP,Nat.reduceLT,Nat.reduceBEq,Ag,Nat.reduceAdd,st0,↓reduceIte,e_idxS,oI,Ac,Ab,Try.f59,AF,Wx,h]
theorem Ad8:oP:=Ad6 Ad7
def Wd (hn:Int) (ls:List Lnk) (us l:List Snd) (d:Dem):Prop:=BU hn ls l d=0∧∀i,i<l.length→(l.getD i dS).2.2≤lfM ls us (l.getD i dS).1 (l.getD i dS).2.1
instance {hn:Int} {ls:List Lnk} {us l:List Snd} {d:Dem}:Decidable (Wd hn ls us l d):=inferInstanceAs (Decidable (_∧_))
theorem Ad9 {hn:Int} {ls:List Lnk} {us l:List Snd} {d:Dem} (hf:BA hn ls us=0) (h:BU hn ls l d=0):(¬0≤Io (ovM hn ls us) l)↔∀i,i<l.length→(l.getD i dS).2.2≤lfM ls us (l.getD i dS).1 (l.getD i dS).2.1:=by
 obtain ⟨ok,_⟩:=Cm hf
 have okl:=(serves_iff.1 h).ok
 have hrz:=right_zero.2 ok
 have key:∀i,i<l.length→D0 hn ls us (l.getD i dS).1 (l.getD i dS).2.1=(lfM ls us (l.getD i dS).1 (l.getD i dS).2.1,0):=fun i hi=>by
  have e1:=okl.link i hi
  have e2:=okl.tick i hi
  unfold D0
  rw [if_neg (fun g=>g hrz),if_neg (by omega)];rfl
 rw [oF]
 constructor
 ·intro g i hi
  refine Classical.byContradiction fun c=>g ⟨l.getD i dS,?_,?_⟩
  ·rw [List.getD_eq_getElem?_getD,List.getElem?_eq_getElem hi];exact List.getElem_mem _
  ·unfold ovM
   rw [key i hi,decide_eq_true_eq]
   exact .inr (by dsimp only;omega)
 ·rintro g ⟨x,hx,hp⟩
  obtain ⟨i,hi,rfl⟩:=List.getElem_of_mem hx
  have e:l.getD i dS=l[i]:=by simp[hi]
  have := g i hi
  have k:=key i hi
  rw [e]at this k
  unfold ovM at hp
  rw [k,decide_eq_true_eq]at hp
  dsimp only at hp
  omega
noncomputable def Nd:(Int)×(List Lnk)×(List Snd)×(Dem)×(List Snd)→List PV:=fun (hn,ls,us,d,l) => [.agg [I hn,Az ls,AB us,I d.1,I d.2.1,I d.2.2.1,I d.2.2.2.1,I d.2.2.2.2],AB l]
noncomputable def oQ:(Int)×(List Lnk)×(List Snd)×(Dem)×(List Snd)→PV:=fun (hn,ls,us,d,l)=>B (decide (Wd hn ls us l d))
def oR:(Int)×(List Lnk)×(List Snd)×(Dem)×(List Snd)→Prop:=fun (hn,ls,us,d,l)=>BA hn ls us=0
noncomputable def e_ppos:Nat×Ent:=(40,.v (Ah Nd oQ oR))
theorem Aea:∀i j,Nd i=Nd j→i=j:=by
 rintro ⟨hn₁,ls₁,us₁,d₁,l₁⟩ ⟨hn₂,ls₂,us₂,d₂,l₂⟩ h
 simp only[Nd,List.cons.injEq,and_true,PV.lits.injEq,PV.int.injEq,PV.agg.injEq,true_and,AU,AG]at h
 simp [Prod.ext_iff,h] <;> omega
theorem We (hn:Int) (ls:List Lnk) (us:List Snd) (d:Dem) (l:List Snd):Ah Nd oQ oR [.agg [I hn,Az ls,AB us,I d.1,I d.2.1,I d.2.2.1,I d.2.2.2.1,I d.2.2.2.2],AB l]=@ite (Option (PV)) (BA hn ls us=0) (Classical.propDecidable _) (some (B (decide (Wd hn ls us l d)))) none:=B9 Aea (hn,ls,us,d,l)
def oS:Prop:=∀(hn:Int) (ls:List Lnk) (us:List Snd) (d:Dem) (l:List Snd) (h:BA hn ls us=0) ,VC Try.prog 40 [.agg [I hn,Az ls,AB us,I d.1,I d.2.1,I d.2.2.1,I d.2.2.2.1,I d.2.2.2.2],AB l] (B (decide (Wd hn ls us l d)))
def oT:Prop:=AN Try.prog e_ppos.1 e_ppos.2
theorem Aeb (c:oS):oT:=At fun⟨hn,ls,us,d,l⟩ h=>c hn ls us d l h
theorem Aec:oS:=by
 intro hn ls us d l hf
 refine A5 AR (l := [e_serves,e_cntS]) ((Ae lM (Ae Ad8 As))) [] []  Try.func40 rfl (by decide +kernel) (N:=16) rfl (by simp) rfl (by kernel_rfl) fun hs=>?_
 simp only[AI,PV.small,List.length_map,and_true,true_and]at hs
 have sp:=lJ (hn:=hn) (ls:=ls) (l:=l) (d:=d)
 dsimp only[Az,AB,B3]at sp
 by_cases h:BU hn ls l d=0
 ·have hov:=Ad9 (us:=us) hf h
  rw [h]at sp
  by_cases c:0≤Io (ovM hn ls us) l
  ·rw [decide_eq_false (fun g=>(hov.2 g.2) c)]
   simp +contextual (maxSteps:=4000000) only[↓bdD,bdP,Nat.reduceLT,Nat.reduceBEq,Ag,Nat.reduceEqDiff,Nat.reduceAdd,Nat.reduceLeDiff,st0,↓reduceIte,e_serves,e_cntS,oN,Ac,Ab,Try.f40,Au,AF,AP,Bl,Wx,sp,c]
  ·rw [decide_eq_true ⟨h,hov.1 c⟩]
   simp +contextual (maxSteps:=4000000) only[↓bdD,bdP,Nat.reduceLT,Nat.reduceBEq,Ag,Nat.reduceEqDiff,Nat.reduceAdd,Nat.reduceLeDiff,st0,↓reduceIte,e_serves,e_cntS,oN,Ac,Ab,Try.f40,Au,AF,AP,Bl,Wx,sp,c]
 ·rw [decide_eq_false (fun g=>h g.1)]
  generalize BU hn ls l d=r at *
  simp +contextual (maxSteps:=4000000) only[↓bdD,bdP,Nat.reduceLT,Nat.reduceBEq,Ag,Nat.reduceAdd,Nat.reduceLeDiff,st0,↓reduceIte,e_serves,e_cntS,Ac,Ab,Try.f40,Au,AF,AP,Bl,sp,h]
theorem Aed:oT:=Aeb Aec
end Sim
namespace Sim
open Go Go.Proofs
attribute [local congr] An Ao Al AC Aq Ap Av
def QQ (hn:Int) (ls:List Lnk) (us:List Snd) (d:Dem) (l:List Snd) (y:List (List Int)):Prop:=GR hn ls us d y=0∧Wd hn ls us l d∧FQ hn ls l≤J7 hn ls us d y
instance {hn:Int} {ls:List Lnk} {us:List Snd} {d:Dem} {l:List Snd} {y:List (List Int)}:Decidable (QQ hn ls us d l y):=inferInstanceAs (Decidable (_∧_))
theorem yB {hn:Int} {ls:List Lnk} {us:List Snd} {d:Dem} {y:List (List Int)} (h:GR hn ls us d y=0):CN hn ls us d=0∧shE hn d y=0:=by
 unfold GR at h
 split at h
 ·contradiction
 ·rename_i c;exact⟨Classical.not_not.1 c,h⟩
noncomputable def F3:(Int)×(List Lnk)×(List Snd)×(Dem)×(List Snd)×(List (List Int))→List PV:=fun (hn,ls,us,d,l,y) => [.agg [I hn,Az ls,AB us,I d.1,I d.2.1,I d.2.2.1,I d.2.2.2.1,I d.2.2.2.2],AB l,Ff y]
noncomputable def OX:(Int)×(List Lnk)×(List Snd)×(Dem)×(List Snd)×(List (List Int))→PV:=fun (hn,ls,us,d,l,y)=>B (decide (QQ hn ls us d l y))
def OY:(Int)×(List Lnk)×(List Snd)×(Dem)×(List Snd)×(List (List Int))→Prop:=fun (hn,ls,us,d,l,y)=>True
noncomputable def e_paccept:Nat×Ent:=(17,.v (Ah F3 OX OY))
theorem bI:∀i j,F3 i=F3 j→i=j:=by
 rintro ⟨hn₁,ls₁,us₁,d₁,l₁,y₁⟩ ⟨hn₂,ls₂,us₂,d₂,l₂,y₂⟩ h
 simp only[F3,List.cons.injEq,and_true,PV.lits.injEq,PV.int.injEq,PV.agg.injEq,true_and,AU,AG,J6]at h
 simp [Prod.ext_iff,h] <;> omega
theorem Ie (hn:Int) (ls:List Lnk) (us:List Snd) (d:Dem) (l:List Snd) (y:List (List Int)):Ah F3 OX OY [.agg [I hn,Az ls,AB us,I d.1,I d.2.1,I d.2.2.1,I d.2.2.2.1,I d.2.2.2.2],AB l,Ff y]=some (B (decide (QQ hn ls us d l y))):=Ay bI (i:=(hn,ls,us,d,l,y)) trivial
def OZ:Prop:=∀(hn:Int) (ls:List Lnk) (us:List Snd) (d:Dem) (l:List Snd) (y:List (List Int)) ,VC Try.prog 17 [.agg [I hn,Az ls,AB us,I d.1,I d.2.1,I d.2.2.1,I d.2.2.2.1,I d.2.2.2.2],AB l,Ff y] (B (decide (QQ hn ls us d l y)))
def O0:Prop:=AN Try.prog e_paccept.1 e_paccept.2
theorem bJ (c:OZ):O0:=At fun⟨hn,ls,us,d,l,y⟩ h=>c hn ls us d l y
theorem bK:OZ:=by
 intro hn ls us d l y
 refine A5 AR (l := [e_pbound,e_ppos,e_cost]) ((Ae TG (Ae Aed (Ae Aca As)))) [] []  Try.func17 rfl (by decide +kernel) (N:=38) rfl (by simp) rfl (by kernel_rfl) fun hs=>?_
 simp only[AI,PV.small,List.length_map,and_true,true_and]at hs
 have sp:=Ka (hn:=hn) (ls:=ls) (us:=us) (d:=d) (y:=y)
 have sq:=Ab7 (hn:=hn) (ls:=ls) (l:=l)
 dsimp only[Az,AB,B3,Ff]at sp sq
 by_cases h:GR hn ls us d y=0
 case neg =>
  rw [decide_eq_false (fun g=>h g.1)]
  generalize GR hn ls us d y=r at *
  simp +contextual (maxSteps:=4000000) only[↓bdD,bdP,Nat.reduceLT,Nat.reduceBEq,Ag,Nat.reduceAdd,st0,↓reduceIte,e_pbound,e_ppos,e_cost,Ac,Ab,Dn,Try.f17,Bl,By,sp,h]
 have hf:=(Dg (pck_zero.1 (yB h).1).1).1
 rw [h]at sp
 by_cases c:Wd hn ls us l d
 case neg =>
  rw [decide_eq_false (fun g=>c g.2.1)]
  simp +contextual (maxSteps:=4000000) only[↓bdD,bdP,Nat.reduceLT,Nat.reduceBEq,Ag,Nat.reduceEqDiff,Nat.reduceAdd,st0,↓reduceIte,e_pbound,e_ppos,We,e_cost,Ac,Ab,Dn,Try.f17,AF,Bl,By,sp,hf,c]
 have hz:=right_zero.2 (serves_iff.1 c.1).ok
 rw [hz]at sq
 by_cases e:FQ hn ls l≤J7 hn ls us d y
 ·rw [decide_eq_true ⟨h,c,e⟩]
  simp +contextual (maxSteps:=4000000) only[↓bdD,bdP,Nat.reduceLT,Nat.reduceBEq,Ag,Nat.reduceEqDiff,Nat.reduceAdd,Nat.reduceLeDiff,st0,↓reduceIte,e_pbound,e_ppos,We,e_cost,Ac,Ab,Dn,Try.f17,Au,AF,Bl,By,sp,sq,hf,c,e]
 ·rw [decide_eq_false (fun g=>e g.2.2)]
  simp +contextual (maxSteps:=4000000) only[↓bdD,bdP,Nat.reduceLT,Nat.reduceBEq,Ag,Nat.reduceEqDiff,Nat.reduceAdd,Nat.reduceLeDiff,st0,↓reduceIte,e_pbound,e_ppos,We,e_cost,Ac,Ab,Dn,Try.f17,Au,AF,Bl,By,sp,sq,hf,c,e]
theorem bL:O0:=bJ bK
end Sim
