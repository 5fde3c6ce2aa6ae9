/- What functions of this seat compute, by values: contracts (lemmas of the statement's proof, under the conditions that each names). -/
import Derived.Test.YtppljhpecoeakaaQN7
set_option maxRecDepth 10000
set_option maxHeartbeats 2000000
set_option linter.unusedVariables false
set_option linter.unusedSimpArgs false
namespace Sim
open Go Go.Proofs
attribute [local congr] Aq Ar Al AG At As Az Gz
def DD (hn:Int) (ls:List Lnk) (l:List Snd) (d:Dem) (at_ tick:Int):Int×Int :=
 if AN hn ls l≠0 then (0,AN hn ls l)else if C6 hn d=false∨hOK hn at_=false∨tick<0∨1000000<tick then (0,1)else (A9 ls l d at_ tick,0)
theorem QV {hn:Int} {d:Dem} (h:C6 hn d=true):Od d:=by
 simp only[C6,Bool.and_eq_true,decide_eq_true_eq]at h
 obtain ⟨_,h⟩:=h
 unfold DU at h
 exact ⟨by omega,h.2.1⟩
noncomputable def Ig:(Int)×(List Lnk)×(List Snd)×(Dem)×(Int)×(Int)→List PV:=fun (hn,ls,l,d,at_,tick) => [.agg [I hn,Ax ls],Av l,B7 d,I at_,I tick]
noncomputable def QW:(Int)×(List Lnk)×(List Snd)×(Dem)×(Int)×(Int)→PV:=fun (hn,ls,l,d,at_,tick)=>.tuple [I (DD hn ls l d at_ tick).1,I (DD hn ls l d at_ tick).2]
def QX:(Int)×(List Lnk)×(List Snd)×(Dem)×(Int)×(Int)→Prop:=fun (hn,ls,l,d,at_,tick)=>True
noncomputable def e_Stock:Nat×Ent:=(43,.v (Ah Ig QW QX))
theorem yU:∀i j,Ig i=Ig j→i=j:=by
 rintro ⟨hn₁,ls₁,l₁,d₁,at_₁,tick₁⟩ ⟨hn₂,ls₂,l₂,d₂,at_₂,tick₂⟩ h
 simp only[Ig,List.cons.injEq,and_true,PV.lits.injEq,PV.int.injEq,PV.agg.injEq,true_and,AM,AF]at h
 simp [Prod.ext_iff,h] <;> omega
theorem QY (hn:Int) (ls:List Lnk) (l:List Snd) (d:Dem) (at_:Int) (tick:Int):Ah Ig QW QX [.agg [I hn,Ax ls],Av l,B7 d,I at_,I tick]=some (.tuple [I (DD hn ls l d at_ tick).1,I (DD hn ls l d at_ tick).2]):=AC yU (i:=(hn,ls,l,d,at_,tick)) trivial
def XT:Prop:=∀(hn:Int) (ls:List Lnk) (l:List Snd) (d:Dem) (at_:Int) (tick:Int) ,VC Try.prog 43 [.agg [I hn,Ax ls],Av l,B7 d,I at_,I tick] (.tuple [I (DD hn ls l d at_ tick).1,I (DD hn ls l d at_ tick).2])
def XU:Prop:=AL Try.prog e_Stock.1 e_Stock.2
theorem yV (c:XT):XU:=Ap fun⟨hn,ls,l,d,at_,tick⟩ h=>c hn ls l d at_ tick
theorem yW:XT:=by
 intro hn ls l d at_ tick
 refine A3 AP (l := [e_right,e_demanded,e_stock]) ((Ad J3 (Ad MW (Ad XS An)))) [] []  Try.func43 rfl (by decide +kernel) (N:=47) rfl (by simp) rfl (by kernel_rfl) fun hs=>?_
 simp only[AJ,PV.small,List.length_map,and_true,true_and]at hs
 by_cases h:AN hn ls l=0
 case neg =>
  rw [show DD hn ls l d at_ tick=(0,AN hn ls l) by simp[DD,h]]
  generalize hr:AN hn ls l=r at *
  simp +contextual (maxSteps:=4000000) only[↓bdD,bdP,Nat.reduceLT,Nat.reduceBEq,Ai,Nat.reduceAdd,st0,↓reduceIte,e_right,BZ,e_demanded,e_stock,Ac,Ab,Try.f43,Au,AB,h,hr]
 have ok:=right_zero.1 h
 have hM:DD hn ls l d at_ tick=if C6 hn d=false∨hOK hn at_=false∨tick<0∨1000000<tick then (0,1)else (A9 ls l d at_ tick,0):=by simp[DD,h]
 rw [hM]
 clear hM
 cases hd:C6 hn d
 ·simp +contextual (maxSteps:=4000000) only[↓bdD,bdP,Nat.reduceLT,Nat.reduceBEq,Ai,Nat.reduceEqDiff,Nat.reduceAdd,st0,↓reduceIte,e_right,BZ,e_demanded,CJ,e_stock,Ac,Ab,Try.f43,Au,AB,AQ,true_or,h,hd]
 have hdb:=QV hd
 by_cases h1:at_<0
 ·have : hOK hn at_=false:=decide_eq_false (by omega)
  simp +contextual (maxSteps:=4000000) only[↓bdD,bdP,Nat.reduceLT,Nat.reduceBEq,Ai,Nat.reduceEqDiff,Nat.reduceAdd,st0,↓reduceIte,e_right,BZ,e_demanded,CJ,e_stock,Ac,Ab,Try.f43,Au,AB,AQ,true_or,h,hd,h1,this]
 by_cases h2:hn≤at_
 ·have : hOK hn at_=false:=decide_eq_false (by omega)
  simp +contextual (maxSteps:=4000000) only[↓bdD,bdP,Nat.reduceLT,Nat.reduceBEq,Ai,Nat.reduceEqDiff,Nat.reduceAdd,st0,↓reduceIte,e_right,BZ,e_demanded,CJ,e_stock,Ac,Ab,Try.f43,ty3,Au,AB,AQ,true_or,h,hd,h1,h2,this]
 have hk:hOK hn at_=true:=decide_eq_true (by omega)
 by_cases h3:tick<0
 ·simp +contextual (maxSteps:=4000000) only[↓bdD,bdP,Nat.reduceLT,Nat.reduceBEq,Ai,Nat.reduceEqDiff,Nat.reduceAdd,st0,↓reduceIte,e_right,BZ,e_demanded,CJ,e_stock,Ac,Ab,Try.f43,ty3,Au,AB,AQ,true_or,h,hd,h1,h2,h3,hk]
 by_cases h4:1000000<tick
 ·simp +contextual (maxSteps:=4000000) only[↓bdD,bdP,Nat.reduceLT,Nat.reduceBEq,Ai,Nat.reduceEqDiff,Nat.reduceAdd,st0,↓reduceIte,e_right,BZ,e_demanded,CJ,e_stock,Ac,Ab,Try.f43,ty3,Au,AB,AQ,h,hd,h1,h2,h3,h4,hk]
 simp +contextual (maxSteps:=4000000) only[↓bdD,bdP,Nat.reduceLT,Nat.reduceBEq,Ai,Nat.reduceEqDiff,Nat.reduceAdd,st0,↓reduceIte,e_right,BZ,e_demanded,CJ,e_stock,J6,Ac,Ab,Try.f43,ty3,Au,AB,AQ,h,hd,h1,h2,h3,h4,hk,ok,hdb]
theorem XV:XU:=yV yW
def frM (ls:List Lnk) (l:List Snd) (k:Nat):Int:=(BX ls (l.getD k dS)).1
def CU (ls:List Lnk) (l:List Snd) (t f:Int):Nat→Int
 | 0=>0
 | n+1=>CU ls l t f n+if (l.getD n dS).2.1=t∧frM ls l n=f then (l.getD n dS).2.2 else 0
def svP (ls:List Lnk) (l:List Snd) (d:Dem):Nat→Bool
 | 0=>false
 | k+1=>svP ls l d k||decide (A9 ls l d (frM ls l k) (l.getD k dS).2.1<CU ls l (l.getD k dS).2.1 (frM ls l k) (k+1))
def svR (ls:List Lnk) (l:List Snd) (d:Dem):Nat→Bool
 | 0=>false
 | k+1=>svR ls l d k||decide (A9 ls l d (frM ls l k) (l.getD k dS).2.1<CU ls l (l.getD k dS).2.1 (frM ls l k) l.length)
theorem QZ {ls:List Lnk} {l:List Snd} {d:Dem}:∀ {n},svP ls l d n=true↔∃k,k<n∧A9 ls l d (frM ls l k) (l.getD k dS).2.1<CU ls l (l.getD k dS).2.1 (frM ls l k) (k+1)
 | 0=>⟨fun h=>(by cases h),fun⟨k,h,_⟩=>absurd h (by omega)⟩
 | n+1=>by
  simp only[svP,Bool.or_eq_true,decide_eq_true_eq,QZ (n:=n)]
  constructor
  ·rintro (⟨k,h,g⟩ | h)
   ·exact ⟨k,by omega,g⟩
   ·exact ⟨n,by omega,h⟩
  ·rintro ⟨k,h,g⟩
   by_cases e:k=n
   ·subst e;exact .inr g
   ·exact .inl ⟨k,by omega,g⟩
theorem svR_iff {ls:List Lnk} {l:List Snd} {d:Dem}:∀ {n},svR ls l d n=true↔∃k,k<n∧A9 ls l d (frM ls l k) (l.getD k dS).2.1<CU ls l (l.getD k dS).2.1 (frM ls l k) l.length
 | 0=>⟨fun h=>(by cases h),fun⟨k,h,_⟩=>absurd h (by omega)⟩
 | n+1=>by
  simp only[svR,Bool.or_eq_true,decide_eq_true_eq,svR_iff (n:=n)]
  constructor
  ·rintro (⟨k,h,g⟩ | h)
   ·exact ⟨k,by omega,g⟩
   ·exact ⟨n,by omega,h⟩
  ·rintro ⟨k,h,g⟩
   by_cases e:k=n
   ·subst e;exact .inr g
   ·exact .inl ⟨k,by omega,g⟩
theorem OZ {hn:Int} {ls:List Lnk} {l:List Snd} (ok:OKr hn ls l) (t f:Int) {m:Nat}:∀ {n},m≤n→n≤l.length→CU ls l t f m≤CU ls l t f n
 | 0,h,_=>by rw[show m=0 by omega];exact Int.le_refl _
 | n+1,h,hl=>by
  by_cases e:m=n+1
  ·rw [e];exact Int.le_refl _
  ·have ih:=OZ ok t f (m:=m) (n:=n) (by omega) (by omega)
   have := ok.bytes n (by omega)
   simp only[CU]
   split <;> omega
theorem Q0 {hn:Int} {ls:List Lnk} {l:List Snd} (ok:OKr hn ls l) (t f:Int):∀n,n≤l.length→0≤CU ls l t f n∧CU ls l t f n≤1073741824*(n:Int)
 | 0,_=>by simp[CU]
 | n+1,h=>by
  have ih:=Q0 ok t f n (by omega)
  have := ok.bytes n (by omega)
  simp only[CU]
  split <;> omega
theorem O0 {ls:List Lnk} {l:List Snd} {k:Nat}:∀n,k<n→∃j,j<n∧(l.getD j dS).2.1=(l.getD k dS).2.1∧frM ls l j=frM ls l k∧CU ls l (l.getD k dS).2.1 (frM ls l k) (j+1)=CU ls l (l.getD k dS).2.1 (frM ls l k) n
 | 0,h=>absurd h (by omega)
 | n+1,h=>by
  by_cases hm:(l.getD n dS).2.1=(l.getD k dS).2.1∧frM ls l n=frM ls l k
  ·exact ⟨n,by omega,hm.1,hm.2,rfl⟩
  ·have hk:k≠n:=fun e=>hm (by rw[e];exact⟨rfl,rfl⟩)
   obtain ⟨j,h1,h2,h3,h4⟩:=O0 (ls:=ls) (l:=l) (k:=k) n (by omega)
   refine ⟨j,by omega,h2,h3,?_⟩
   rw [h4]
   simp only[CU]
   rw [if_neg hm,Int.add_zero]
theorem Aeq {hn:Int} {ls:List Lnk} {l:List Snd} {d:Dem} (ok:OKr hn ls l):svP ls l d l.length=svR ls l d l.length:=by
 rw [Bool.eq_iff_iff,QZ,svR_iff]
 constructor
 ·rintro ⟨k,h,g⟩
  have := OZ ok (l.getD k dS).2.1 (frM ls l k) (m:=k+1) (n:=l.length) (by omega) (by omega)
  exact ⟨k,h,by omega⟩
 ·rintro ⟨k,h,g⟩
  obtain ⟨j,h1,h2,h3,h4⟩:=O0 (ls:=ls) (l:=l) (k:=k) l.length h
  exact ⟨j,h1,by rw[h2,h3,h4];exact g⟩
def A6 (hn:Int) (ls:List Lnk) (l:List Snd) (d:Dem):Int :=
 if AN hn ls l≠0 then AN hn ls l else if C6 hn d=false then 1 else if Br hn ls l≠0 then Br hn ls l
 else if svR ls l d l.length=true then 4 else if A9 ls l d d.2.1 d.2.2.2.2<d.2.2.1 then 21 else 0
theorem XW {k:Nat} {n:Nat} (h:k<n) (hn:n≤2000):IntKind.i64.wrap ((k:Int)+1)=((k+1:Nat):Int):=by rw[Aj (by omega) (by omega)];omega
noncomputable def HI:(Int)×(List Lnk)×(List Snd)×(Dem)→List PV:=fun (hn,ls,l,d) => [.agg [I hn,Ax ls],Av l,B7 d]
noncomputable def TS:(Int)×(List Lnk)×(List Snd)×(Dem)→PV:=fun (hn,ls,l,d)=>I (A6 hn ls l d)
def TT:(Int)×(List Lnk)×(List Snd)×(Dem)→Prop:=fun (hn,ls,l,d)=>True
noncomputable def e_serves:Nat×Ent:=(58,.v (Ah HI TS TT))
theorem nT:∀i j,HI i=HI j→i=j:=by
 rintro ⟨hn₁,ls₁,l₁,d₁⟩ ⟨hn₂,ls₂,l₂,d₂⟩ h
 simp only[HI,List.cons.injEq,and_true,PV.lits.injEq,PV.int.injEq,PV.agg.injEq,true_and,AM,AF]at h
 simp [Prod.ext_iff,h] <;> omega
theorem nU (hn:Int) (ls:List Lnk) (l:List Snd) (d:Dem):Ah HI TS TT [.agg [I hn,Ax ls],Av l,B7 d]=some (I (A6 hn ls l d)):=AC nT (i:=(hn,ls,l,d)) trivial
def TU:Prop:=∀(hn:Int) (ls:List Lnk) (l:List Snd) (d:Dem) ,VC Try.prog 58 [.agg [I hn,Ax ls],Av l,B7 d] (I (A6 hn ls l d))
def TV:Prop:=AL Try.prog e_serves.1 e_serves.2
theorem nV (c:TU):TV:=Ap fun⟨hn,ls,l,d⟩ h=>c hn ls l d
theorem nW:TU:=by
 intro hn ls l d
 refine A3 AP (l := [e_right,e_demanded,e_fits,e_stock]) ((Ad J3 (Ad MW (Ad mW (Ad XS An))))) [92] []  Try.func58 rfl (by decide +kernel) (N:=96) rfl (by simp) rfl (by kernel_rfl) fun hs=>?_
 simp only[AJ,PV.small,List.length_map,and_true,true_and]at hs
 by_cases h:AN hn ls l=0
 case neg =>
  rw [show A6 hn ls l d=AN hn ls l by simp[A6,h]]
  generalize hr:AN hn ls l=r at *
  simp +contextual (maxSteps:=4000000) only[↓bdD,bdP,Nat.reduceLT,Nat.reduceBEq,Ai,Nat.reduceAdd,st0,↓reduceIte,e_right,BZ,e_demanded,e_fits,e_stock,Ac,Ab,Try.f58,Au,AB,h,hr]
 have ok:=right_zero.1 h
 have hlen:=ok.len
 cases hd:C6 hn d
 ·rw [show A6 hn ls l d=1 by simp[A6,h,hd]]
  simp +contextual (maxSteps:=4000000) only[↓bdD,bdP,Nat.reduceLT,Nat.reduceBEq,Ai,Nat.reduceEqDiff,Nat.reduceAdd,st0,↓reduceIte,e_right,BZ,e_demanded,CJ,e_fits,e_stock,Ac,Ab,Try.f58,Au,AB,AQ,h,hd]
 have hdb:=QV hd
 by_cases hf:Br hn ls l=0
 case neg =>
  rw [show A6 hn ls l d=Br hn ls l by simp[A6,h,hd,hf]]
  generalize hr:Br hn ls l=r at *
  simp +contextual (maxSteps:=4000000) only[↓bdD,bdP,Nat.reduceLT,Nat.reduceBEq,Ai,Nat.reduceEqDiff,Nat.reduceAdd,st0,↓reduceIte,e_right,BZ,e_demanded,CJ,e_fits,KP,e_stock,Ac,Ab,Try.f58,Au,AB,AQ,h,hd,hf,hr]
 have hM:A6 hn ls l d=if svP ls l d l.length=true then 4 else if A9 ls l d d.2.1 d.2.2.2.2<d.2.2.1 then 21 else 0:=by simp[A6,h,hd,hf,Aeq ok]
 rw [hM]
 clear hM
 generalize hr:(if svP ls l d l.length=true then (4:Int)else if A9 ls l d d.2.1 d.2.2.2.2<d.2.2.1 then 21 else 0)=r
 simp +contextual (maxSteps:=4000000) only[↓bdD,bdP,Nat.reduceLT,Nat.reduceBEq,Nat.reduceEqDiff,Nat.reduceAdd,st0,↓reduceIte,e_right,BZ,e_demanded,CJ,e_fits,KP,e_stock,Ac,Ab,Try.f58,Au,AB,AQ,h,hd,hf]
 refine Ay [6,9,10,11,12,14,33,34,35,36,37,38,39,40,41,42,43,44,45,46,47,48,49,50,51,52,53,54,55,56,57,58,59,60,61,62,63,64,65,66,67,68,69,70,71,72,73,74,75,76,77,78,79,80,81,82,83,84] l.length (fun k ρ st'=>ρ 33=I k∧svP ls l d k=false) (.refl _) ?_ ?_
 ·simp +contextual (maxSteps:=4000000) only[↓bdD,bdP,svP]
 ·rintro k ρ ⟨ob,M⟩ hk ⟨h33,hz⟩
  by_cases hlt:k<l.length
  ·have hw1:=XW hlt hlen
   have e1:=ok.link k hlt
   have hs:svP ls l d (k+1)=decide (A9 ls l d (frM ls l k) (l.getD k dS).2.1<CU ls l (l.getD k dS).2.1 (frM ls l k) (k+1)):=by simp only[svP,hz,Bool.false_or]
   have hle:=Q0 ok (l.getD k dS).2.1 (frM ls l k)
   have htk:List.take (k+1-0) (l.map Hc)=(l.take (k+1)).map Hc:=List.map_take.symm
   have htl:(l.take (k+1)).length=k+1:=by simp;omega
   have htg:∀i,i<k+1→(l.take (k+1)).getD i dS=l.getD i dS:=fun i hi=>by simp[hi]
   have hk1:((k+1:Nat):Int)≤(l.length:Int):=by omega
   have hfr:frM ls l k=(ls.getD (l.getD k dS).1.toNat dL).1:=rfl
   generalize hf:frM ls l k=f at *
   generalize hx:l.getD k dS=x at *
   have h5:=Cy e1.1 e1.2
   have h6:=Int.toNat_of_nonneg e1.1
   generalize x.1.toNat=kk at *
   have nM:¬M=M+1:=by omega
   simp +contextual (maxSteps:=4000000) only[↓bdD,bdP,Nat.reduceLT,Nat.reduceBEq,Nat.reduceAdd,Int.reduceToNat,Store.new,Store.set,↓reduceIte,Aw,A8,Dn,ty3,By,Au,AB,B5,Bv,h33,hlt,hx,h5,←h6,hw1,htk,htl,hk1,←hfr]
   refine Ay [12,14,50,51,52,53,54,55,56,57,58,59,60,61,62,63,64,65,66,67,68,69,70,71,72,73,74] (k+1) (fun i ρ st'=>ρ 50=I i∧ρ 12=I (CU ls l x.2.1 f i)∧st'.obj M=some (.arr 0 3 [.agg [I kk,I x.2.1,I x.2.2]])∧M<st'.next) (.refl _) ?_ ?_
   ·simp +contextual (maxSteps:=4000000) only[↓bdD,bdP,Nat.reduceBEq,CU]
   ·rintro i ρ2 ⟨ob2,M2⟩ hi ⟨h50,h12,hob,hMM⟩
    dsimp only at hob hMM
    have q1:¬M=M2:=by omega
    by_cases hilt:i<k+1
    ·have hw2:IntKind.i64.wrap ((i:Int)+1)=((i+1:Nat):Int):=XW hilt (by omega)
     have hil:i<l.length:=by omega
     have e2:=ok.link i hil
     have b2:=ok.bytes i hil
     have hst:CU ls l x.2.1 f (i+1)=CU ls l x.2.1 f i+if (l.getD i dS).2.1=x.2.1∧frM ls l i=f then (l.getD i dS).2.2 else 0:=rfl
     have hl2:=hle i (by omega)
     have hg:=htg i hilt
     have hfi:frM ls l i=(ls.getD (l.getD i dS).1.toNat dL).1:=rfl
     rw [hfi]at hst
     generalize hy:l.getD i dS=y at *
     have h52:=Cy e2.1 e2.2
     have h62:=Int.toNat_of_nonneg e2.1
     generalize y.1.toNat=jj at *
     by_cases c1:y.2.1=x.2.1
     ·by_cases c2:(ls.getD jj dL).1=f
      ·rw [if_pos ⟨c1,c2⟩]at hst
       have hw3:IntKind.i64.wrap (CU ls l x.2.1 f i+y.2.2)=CU ls l x.2.1 f (i+1):=by rw[hst,Aj (by omega) (by omega)]
       simp +contextual (maxSteps:=4000000) only[↓bdD,bdP,Nat.reduceLT,Nat.reduceBEq,Nat.reduceAdd,Store.new,Store.set,↓reduceIte,Aw,A8,Dn,ty3,By,Au,AB,B5,Bv,h50,h12,hob,q1,hilt,htl,hg,h52,←h62,c1,c2,hw2,hw3]
       omega
      ·rw [if_neg (fun h=>c2 h.2),Int.add_zero]at hst
       rw [hst]
       simp +contextual (maxSteps:=4000000) only[↓bdD,bdP,Nat.reduceLT,Nat.reduceBEq,Nat.reduceAdd,Store.new,Store.set,↓reduceIte,Aw,A8,Dn,ty3,By,Au,AB,B5,Bv,h50,h12,hob,q1,hilt,htl,hg,h52,←h62,c1,c2,hw2]
       omega
     ·rw [if_neg (fun h=>c1 h.1),Int.add_zero]at hst
      rw [hst]
      simp +contextual (maxSteps:=4000000) only[↓bdD,bdP,Nat.reduceLT,Nat.reduceBEq,Nat.reduceAdd,Store.new,Store.set,↓reduceIte,Aw,ty3,AB,Bv,h50,h12,hob,q1,hilt,htl,hg,c1,hw2]
      omega
    ·have e:i=k+1:=by omega
     subst e
     by_cases hb:A9 ls l d f x.2.1<CU ls l x.2.1 f (k+1)
     ·rw [decide_eq_true hb]at hs
      have hend:svP ls l d l.length=true:=by
       rw [QZ]at hs ⊢
       obtain ⟨j,j1,j2⟩:=hs
       exact ⟨j,by omega,j2⟩
      rw [if_pos hend]at hr
      subst hr
      simp +contextual (maxSteps:=4000000) only[↓bdD,bdP,Nat.reduceLT,Nat.reduceBEq,Ai,Nat.reduceEqDiff,Nat.reduceAdd,↓reduceIte,J6,Ac,Ab,ty3,Au,AB,AQ,Bv,h50,h12,hob,ok,hdb,hb]
     ·rw [decide_eq_false hb]at hs
      simp +contextual (maxSteps:=4000000) only[↓bdD,bdP,Nat.reduceLT,Nat.reduceBEq,Nat.reduceEqDiff,Nat.reduceAdd,↓reduceIte,J6,Ac,Ab,ty3,Au,AB,AQ,Bv,h50,h12,hob,ok,hdb,hb,hs,hw1,h33]
      rw [AI (by decide +kernel)];simp +contextual (maxSteps:=4000000) only[↓bdD,bdP,Nat.reduceBEq]
  ·have e:k=l.length:=by omega
   subst e
   rw [hz,if_neg (by simp)]at hr
   by_cases hb:A9 ls l d d.2.1 d.2.2.2.2<d.2.2.1
   ·rw [if_pos hb]at hr
    subst hr
    simp +contextual (maxSteps:=4000000) only[↓bdD,bdP,Nat.reduceLT,Nat.reduceBEq,Ai,Nat.reduceEqDiff,Nat.reduceAdd,↓reduceIte,J6,Ac,Ab,ty3,Au,AB,AQ,h33,ok,hdb,hb]
   ·rw [if_neg hb]at hr
    subst hr
    simp +contextual (maxSteps:=4000000) only[↓bdD,bdP,Nat.reduceLT,Nat.reduceBEq,Ai,Nat.reduceEqDiff,Nat.reduceAdd,↓reduceIte,J6,Ac,Ab,ty3,Au,AB,AQ,h33,ok,hdb,hb]
theorem nX:TV:=nV nW
noncomputable def F8:(Int)×(List Lnk)×(List Snd)×(Dem)→List PV:=fun (hn,ls,l,d) => [.agg [I hn,Ax ls],Av l,B7 d]
noncomputable def Pa:(Int)×(List Lnk)×(List Snd)×(Dem)→PV:=fun (hn,ls,l,d)=>I (A6 hn ls l d)
def Pb:(Int)×(List Lnk)×(List Snd)×(Dem)→Prop:=fun (hn,ls,l,d)=>True
noncomputable def e_rserves:Nat×Ent:=(47,.v (Ah F8 Pa Pb))
theorem cK:∀i j,F8 i=F8 j→i=j:=by
 rintro ⟨hn₁,ls₁,l₁,d₁⟩ ⟨hn₂,ls₂,l₂,d₂⟩ h
 simp only[F8,List.cons.injEq,and_true,PV.lits.injEq,PV.int.injEq,PV.agg.injEq,true_and,AM,AF]at h
 simp [Prod.ext_iff,h] <;> omega
theorem cL (hn:Int) (ls:List Lnk) (l:List Snd) (d:Dem):Ah F8 Pa Pb [.agg [I hn,Ax ls],Av l,B7 d]=some (I (A6 hn ls l d)):=AC cK (i:=(hn,ls,l,d)) trivial
def Pc:Prop:=∀(hn:Int) (ls:List Lnk) (l:List Snd) (d:Dem) ,VC Try.prog 47 [.agg [I hn,Ax ls],Av l,B7 d] (I (A6 hn ls l d))
def Pd:Prop:=AL Try.prog e_rserves.1 e_rserves.2
theorem cM (c:Pc):Pd:=Ap fun⟨hn,ls,l,d⟩ h=>c hn ls l d
theorem cN:Pc:=by
 intro hn ls l d
 refine A3 AP (l := [e_rright,e_rdemand,e_rfits,e_have]) ((Ad ML (Ad OU (Ad XL (Ad Aep An))))) [94,103] []  Try.func47 rfl (by decide +kernel) (N:=107) rfl (by simp) rfl (by kernel_rfl) fun hs=>?_
 simp only[AJ,PV.small,List.length_map,and_true,true_and]at hs
 by_cases h:AN hn ls l=0
 case neg =>
  rw [show A6 hn ls l d=AN hn ls l by simp[A6,h]]
  generalize hr:AN hn ls l=r at *
  simp +contextual (maxSteps:=4000000) only[↓bdD,bdP,Nat.reduceLT,Nat.reduceBEq,Ai,Nat.reduceAdd,st0,↓reduceIte,e_rright,Df,e_rdemand,e_rfits,e_have,Ac,Ab,Try.f47,Au,AB,h,hr]
 have ok:=right_zero.1 h
 have hlen:=ok.len
 cases hd:C6 hn d
 ·rw [show A6 hn ls l d=1 by simp[A6,h,hd]]
  simp +contextual (maxSteps:=4000000) only[↓bdD,bdP,Nat.reduceLT,Nat.reduceBEq,Ai,Nat.reduceEqDiff,Nat.reduceAdd,st0,↓reduceIte,e_rright,Df,e_rdemand,EX,e_rfits,e_have,Ac,Ab,Try.f47,Au,AB,AQ,h,hd]
 have hdb:=QV hd
 by_cases hf:Br hn ls l=0
 case neg =>
  rw [show A6 hn ls l d=Br hn ls l by simp[A6,h,hd,hf]]
  generalize hr:Br hn ls l=r at *
  simp +contextual (maxSteps:=4000000) only[↓bdD,bdP,Nat.reduceLT,Nat.reduceBEq,Ai,Nat.reduceEqDiff,Nat.reduceAdd,st0,↓reduceIte,e_rright,Df,e_rdemand,EX,e_rfits,Ie,e_have,Ac,Ab,Try.f47,Au,AB,AQ,h,hd,hf,hr]
 have hM:A6 hn ls l d=if svR ls l d l.length=true then 4 else if A9 ls l d d.2.1 d.2.2.2.2<d.2.2.1 then 21 else 0:=by simp[A6,h,hd,hf]
 rw [hM]
 clear hM
 generalize hr:(if svR ls l d l.length=true then (4:Int)else if A9 ls l d d.2.1 d.2.2.2.2<d.2.2.1 then 21 else 0)=r
 simp +contextual (maxSteps:=4000000) only[↓bdD,bdP,Nat.reduceLT,Nat.reduceBEq,Nat.reduceEqDiff,Nat.reduceAdd,st0,↓reduceIte,e_rright,Df,e_rdemand,EX,e_rfits,Ie,e_have,Ac,Ab,Try.f47,Au,AB,AQ,h,hd,hf]
 refine Ay [6,9,10,11,12,30,31,32,33,34,35,36,37,38,39,40,41,42,43,44,45,46,47,48,49,50,51,52,53,54,55,56,57,58,59,60,61,62,63,64,65,66,67,68,69,70,71,72,73,74,75,76,77,78,79,80,81,82,83,84,85,86,87,88,89,90,91,92,93,94,95] l.length (fun k ρ st'=>ρ 9=I k∧svR ls l d k=false) (.refl _) ?_ ?_
 ·simp +contextual (maxSteps:=4000000) only[↓bdD,bdP,svR]
 ·rintro k ρ ⟨ob,M⟩ hk ⟨h33,hz⟩
  by_cases hlt:k<l.length
  ·have hw1:=XW hlt hlen
   have e1:=ok.link k hlt
   have hs:svR ls l d (k+1)=decide (A9 ls l d (frM ls l k) (l.getD k dS).2.1<CU ls l (l.getD k dS).2.1 (frM ls l k) l.length):=by simp only[svR,hz,Bool.false_or]
   have hle:=Q0 ok (l.getD k dS).2.1 (frM ls l k)
   have hfr:frM ls l k=(ls.getD (l.getD k dS).1.toNat dL).1:=rfl
   generalize hf:frM ls l k=f at *
   generalize hx:l.getD k dS=x at *
   have h5:=Cy e1.1 e1.2
   have h6:=Int.toNat_of_nonneg e1.1
   generalize x.1.toNat=kk at *
   simp +contextual (maxSteps:=4000000) only[↓bdD,bdP,Nat.reduceLT,Nat.reduceBEq,Nat.reduceAdd,↓reduceIte,Aw,A8,Dn,ty3,By,Au,AB,B5,Bv,h33,hlt,hx,h5,←h6,←hfr]
   refine Ay [11,12,46,47,48,49,50,51,52,53,54,55,56,57,58,59,60,61,62,63,64,65,66,67,68,69,70,71,72,73,74,75,76,77,78,79,80,81,82,83] l.length (fun i ρ st'=>ρ 12=I i∧ρ 11=I (CU ls l x.2.1 f i)) (.refl _) ?_ ?_
   ·simp +contextual (maxSteps:=4000000) only[↓bdD,bdP,Nat.reduceBEq,CU]
   ·rintro i ρ2 ⟨ob2,M2⟩ hi ⟨h50,h12⟩
    by_cases hilt:i<l.length
    ·have hw2:IntKind.i64.wrap ((i:Int)+1)=((i+1:Nat):Int):=XW hilt (by omega)
     have e2:=ok.link i hilt
     have b2:=ok.bytes i hilt
     have hst:CU ls l x.2.1 f (i+1)=CU ls l x.2.1 f i+if (l.getD i dS).2.1=x.2.1∧frM ls l i=f then (l.getD i dS).2.2 else 0:=rfl
     have hl2:=hle i (by omega)
     have hfi:frM ls l i=(ls.getD (l.getD i dS).1.toNat dL).1:=rfl
     rw [hfi]at hst
     generalize hy:l.getD i dS=y at *
     have h52:=Cy e2.1 e2.2
     have h62:=Int.toNat_of_nonneg e2.1
     generalize y.1.toNat=jj at *
     by_cases c1:y.2.1=x.2.1
     ·by_cases c2:(ls.getD jj dL).1=f
      ·rw [if_pos ⟨c1,c2⟩]at hst
       have hw3:IntKind.i64.wrap (CU ls l x.2.1 f i+y.2.2)=CU ls l x.2.1 f (i+1):=by rw[hst,Aj (by omega) (by omega)]
       simp +contextual (maxSteps:=4000000) only[↓bdD,bdP,Nat.reduceLT,Nat.reduceBEq,Nat.reduceAdd,↓reduceIte,Aw,A8,Dn,ty3,By,Au,AB,B5,Bv,h33,h50,h12,hlt,hx,hilt,hy,h52,←h62,c1,c2,hw2,hw3]
      ·rw [if_neg (fun h=>c2 h.2),Int.add_zero]at hst
       rw [hst]
       simp +contextual (maxSteps:=4000000) only[↓bdD,bdP,Nat.reduceLT,Nat.reduceBEq,Nat.reduceAdd,↓reduceIte,Aw,A8,Dn,ty3,By,Au,AB,B5,Bv,h33,h50,h12,hlt,hx,hilt,hy,h52,←h62,c1,c2,hw2]
     ·rw [if_neg (fun h=>c1 h.1),Int.add_zero]at hst
      rw [hst]
      simp +contextual (maxSteps:=4000000) only[↓bdD,bdP,Nat.reduceLT,Nat.reduceBEq,Nat.reduceAdd,↓reduceIte,Aw,ty3,AB,Bv,h33,h50,h12,hlt,hx,hilt,hy,c1,hw2]
    ·have e:i=l.length:=by omega
     subst e
     by_cases hb:A9 ls l d f x.2.1<CU ls l x.2.1 f l.length
     ·rw [decide_eq_true hb]at hs
      have hend:svR ls l d l.length=true:=by
       rw [svR_iff]at hs ⊢
       obtain ⟨j,j1,j2⟩:=hs
       exact ⟨j,by omega,j2⟩
      rw [if_pos hend]at hr
      subst hr
      simp +contextual (maxSteps:=4000000) only[↓bdD,bdP,Nat.reduceLT,Nat.reduceBEq,Ai,Nat.reduceEqDiff,Nat.reduceAdd,↓reduceIte,QU,Aw,Ac,Ab,ty3,Au,AB,AQ,Bv,h33,h50,h12,hlt,hx,ok,hdb,hb]
     ·rw [decide_eq_false hb]at hs
      simp +contextual (maxSteps:=4000000) only[↓bdD,bdP,Nat.reduceLT,Nat.reduceBEq,Nat.reduceEqDiff,Nat.reduceAdd,↓reduceIte,QU,Aw,Ac,Ab,ty3,Au,AB,AQ,Bv,h50,h12,hlt,hx,ok,hdb,hb,hs,hw1,h33]
      rw [AI (by decide +kernel)];simp +contextual (maxSteps:=4000000) only[↓bdD,bdP,Nat.reduceBEq]
  ·have e:k=l.length:=by omega
   subst e
   rw [hz,if_neg (by simp)]at hr
   by_cases hb:A9 ls l d d.2.1 d.2.2.2.2<d.2.2.1
   ·rw [if_pos hb]at hr
    subst hr
    simp +contextual (maxSteps:=4000000) only[↓bdD,bdP,Nat.reduceLT,Nat.reduceBEq,Ai,Nat.reduceEqDiff,Nat.reduceAdd,↓reduceIte,QU,Ac,Ab,ty3,Au,AB,AQ,h33,ok,hdb,hb]
   ·rw [if_neg hb]at hr
    subst hr
    simp +contextual (maxSteps:=4000000) only[↓bdD,bdP,Nat.reduceLT,Nat.reduceBEq,Ai,Nat.reduceEqDiff,Nat.reduceAdd,↓reduceIte,QU,Ac,Ab,ty3,Au,AB,AQ,h33,ok,hdb,hb]
theorem cO:Pd:=cM cN
end Sim
