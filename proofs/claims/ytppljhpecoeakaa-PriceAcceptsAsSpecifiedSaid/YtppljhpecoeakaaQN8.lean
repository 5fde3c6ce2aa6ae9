/- What functions of this seat compute, by values: contracts (lemmas of the statement's proof, under the conditions that each names). -/
import Derived.Test.YtppljhpecoeakaaQN7
set_option maxRecDepth 10000
set_option maxHeartbeats 2000000
set_option linter.unusedVariables false
set_option linter.unusedSimpArgs false
namespace Sim
open Go Go.Proofs
attribute [local congr] As At Am AI Av Au AA Gw
def Dz (hn:Int) (ls:List Lnk) (l:List Snd) (d:Dem) (at_ tick:Int):Int×Int :=
 if AL hn ls l≠0 then (0,AL hn ls l)else if Dc hn d=false∨hOK hn at_=false∨tick<0∨1000000<tick then (0,1)else (BA ls l d at_ tick,0)
theorem QQ {hn:Int} {d:Dem} (h:Dc hn d=true):N5 d:=by
 simp only[Dc,Bool.and_eq_true,decide_eq_true_eq]at h
 obtain ⟨_,h⟩:=h
 unfold DX at h
 exact ⟨by omega,h.2.1⟩
noncomputable def Ic:(Int)×(List Lnk)×(List Snd)×(Dem)×(Int)×(Int)→List PV:=fun (hn,ls,l,d,at_,tick) => [.agg [I hn,Ax ls],Aw l,B6 d,I at_,I tick]
noncomputable def QR:(Int)×(List Lnk)×(List Snd)×(Dem)×(Int)×(Int)→PV:=fun (hn,ls,l,d,at_,tick)=>.tuple [I (Dz hn ls l d at_ tick).1,I (Dz hn ls l d at_ tick).2]
def QT:(Int)×(List Lnk)×(List Snd)×(Dem)×(Int)×(Int)→Prop:=fun (hn,ls,l,d,at_,tick)=>True
noncomputable def e_Stock:Nat×Ent:=(43,.v (Ag Ic QR QT))
theorem zL:∀i j,Ic i=Ic j→i=j:=by
 rintro ⟨hn₁,ls₁,l₁,d₁,at_₁,tick₁⟩ ⟨hn₂,ls₂,l₂,d₂,at_₂,tick₂⟩ h
 simp only[Ic,List.cons.injEq,and_true,PV.lits.injEq,PV.int.injEq,PV.agg.injEq,true_and,AK,AD]at h
 simp [Prod.ext_iff,h] <;> omega
theorem QU (hn:Int) (ls:List Lnk) (l:List Snd) (d:Dem) (at_:Int) (tick:Int):Ag Ic QR QT [.agg [I hn,Ax ls],Aw l,B6 d,I at_,I tick]=some (.tuple [I (Dz hn ls l d at_ tick).1,I (Dz hn ls l d at_ tick).2]):=Az zL (i:=(hn,ls,l,d,at_,tick)) trivial
def XV:Prop:=∀(hn:Int) (ls:List Lnk) (l:List Snd) (d:Dem) (at_:Int) (tick:Int) ,VC Try.prog 43 [.agg [I hn,Ax ls],Aw l,B6 d,I at_,I tick] (.tuple [I (Dz hn ls l d at_ tick).1,I (Dz hn ls l d at_ tick).2])
def XW:Prop:=AM Try.prog e_Stock.1 e_Stock.2
theorem zM (c:XV):XW:=Ao fun⟨hn,ls,l,d,at_,tick⟩ h=>c hn ls l d at_ tick
theorem zN:XV:=by
 intro hn ls l d at_ tick
 refine AW AO (l := [e_right,e_demanded,e_stock]) ((Ad JV (Ad MT (Ad XU An)))) [] []  Try.func43 rfl (by decide +kernel) (N:=47) rfl (by simp) rfl (by kernel_rfl) fun hs=>?_
 simp only[AH,PV.small,List.length_map,and_true,true_and]at hs
 by_cases h:AL hn ls l=0
 case neg =>
  rw [show Dz hn ls l d at_ tick=(0,AL hn ls l) by simp[Dz,h]]
  generalize hr:AL hn ls l=r at *
  simp +contextual (maxSteps:=4000000) only[↓bdD,bdP,Nat.reduceLT,Nat.reduceBEq,Ai,Nat.reduceAdd,st0,↓reduceIte,e_right,BX,e_demanded,e_stock,Ac,Ab,Try.f43,Aq,AB,h,hr]
 have ok:=right_zero.1 h
 have hM:Dz hn ls l d at_ tick=if Dc hn d=false∨hOK hn at_=false∨tick<0∨1000000<tick then (0,1)else (BA ls l d at_ tick,0):=by simp[Dz,h]
 rw [hM]
 clear hM
 cases hd:Dc hn d
 ·simp +contextual (maxSteps:=4000000) only[↓bdD,bdP,Nat.reduceLT,Nat.reduceBEq,Ai,Nat.reduceEqDiff,Nat.reduceAdd,st0,↓reduceIte,e_right,BX,e_demanded,CK,e_stock,Ac,Ab,Try.f43,Aq,AB,AP,true_or,h,hd]
 have hdb:=QQ hd
 by_cases h1:at_<0
 ·have : hOK hn at_=false:=decide_eq_false (by omega)
  simp +contextual (maxSteps:=4000000) only[↓bdD,bdP,Nat.reduceLT,Nat.reduceBEq,Ai,Nat.reduceEqDiff,Nat.reduceAdd,st0,↓reduceIte,e_right,BX,e_demanded,CK,e_stock,Ac,Ab,Try.f43,Aq,AB,AP,true_or,h,hd,h1,this]
 by_cases h2:hn≤at_
 ·have : hOK hn at_=false:=decide_eq_false (by omega)
  simp +contextual (maxSteps:=4000000) only[↓bdD,bdP,Nat.reduceLT,Nat.reduceBEq,Ai,Nat.reduceEqDiff,Nat.reduceAdd,st0,↓reduceIte,e_right,BX,e_demanded,CK,e_stock,Ac,Ab,Try.f43,ty3,Aq,AB,AP,true_or,h,hd,h1,h2,this]
 have hk:hOK hn at_=true:=decide_eq_true (by omega)
 by_cases h3:tick<0
 ·simp +contextual (maxSteps:=4000000) only[↓bdD,bdP,Nat.reduceLT,Nat.reduceBEq,Ai,Nat.reduceEqDiff,Nat.reduceAdd,st0,↓reduceIte,e_right,BX,e_demanded,CK,e_stock,Ac,Ab,Try.f43,ty3,Aq,AB,AP,true_or,h,hd,h1,h2,h3,hk]
 by_cases h4:1000000<tick
 ·simp +contextual (maxSteps:=4000000) only[↓bdD,bdP,Nat.reduceLT,Nat.reduceBEq,Ai,Nat.reduceEqDiff,Nat.reduceAdd,st0,↓reduceIte,e_right,BX,e_demanded,CK,e_stock,Ac,Ab,Try.f43,ty3,Aq,AB,AP,h,hd,h1,h2,h3,h4,hk]
 simp +contextual (maxSteps:=4000000) only[↓bdD,bdP,Nat.reduceLT,Nat.reduceBEq,Ai,Nat.reduceEqDiff,Nat.reduceAdd,st0,↓reduceIte,e_right,BX,e_demanded,CK,e_stock,J2,Ac,Ab,Try.f43,ty3,Aq,AB,AP,h,hd,h1,h2,h3,h4,hk,ok,hdb]
theorem XX:XW:=zM zN
def frM (ls:List Lnk) (l:List Snd) (k:Nat):Int:=(Cb ls (l.getD k dS)).1
def Dd (ls:List Lnk) (l:List Snd) (t f:Int):Nat→Int
 | 0=>0
 | n+1=>Dd ls l t f n+if (l.getD n dS).2.1=t∧frM ls l n=f then (l.getD n dS).2.2 else 0
def svP (ls:List Lnk) (l:List Snd) (d:Dem):Nat→Bool
 | 0=>false
 | k+1=>svP ls l d k||decide (BA ls l d (frM ls l k) (l.getD k dS).2.1<Dd ls l (l.getD k dS).2.1 (frM ls l k) (k+1))
def svR (ls:List Lnk) (l:List Snd) (d:Dem):Nat→Bool
 | 0=>false
 | k+1=>svR ls l d k||decide (BA ls l d (frM ls l k) (l.getD k dS).2.1<Dd ls l (l.getD k dS).2.1 (frM ls l k) l.length)
theorem QV {ls:List Lnk} {l:List Snd} {d:Dem}:∀ {n},svP ls l d n=true↔∃k,k<n∧BA ls l d (frM ls l k) (l.getD k dS).2.1<Dd ls l (l.getD k dS).2.1 (frM ls l k) (k+1)
 | 0=>⟨fun h=>(by cases h),fun⟨k,h,_⟩=>absurd h (by omega)⟩
 | n+1=>by
  simp only[svP,Bool.or_eq_true,decide_eq_true_eq,QV (n:=n)]
  constructor
  ·rintro (⟨k,h,g⟩ | h)
   ·exact ⟨k,by omega,g⟩
   ·exact ⟨n,by omega,h⟩
  ·rintro ⟨k,h,g⟩
   by_cases e:k=n
   ·subst e;exact .inr g
   ·exact .inl ⟨k,by omega,g⟩
theorem svR_iff {ls:List Lnk} {l:List Snd} {d:Dem}:∀ {n},svR ls l d n=true↔∃k,k<n∧BA ls l d (frM ls l k) (l.getD k dS).2.1<Dd ls l (l.getD k dS).2.1 (frM ls l k) l.length
 | 0=>⟨fun h=>(by cases h),fun⟨k,h,_⟩=>absurd h (by omega)⟩
 | n+1=>by
  simp only[svR,Bool.or_eq_true,decide_eq_true_eq,svR_iff (n:=n)]
  constructor
  ·rintro (⟨k,h,g⟩ | h)
   ·exact ⟨k,by omega,g⟩
   ·exact ⟨n,by omega,h⟩
  ·rintro ⟨k,h,g⟩
   by_cases e:k=n
   ·subst e;exact .inr g
   ·exact .inl ⟨k,by omega,g⟩
theorem OR {hn:Int} {ls:List Lnk} {l:List Snd} (ok:OKr hn ls l) (t f:Int) {m:Nat}:∀ {n},m≤n→n≤l.length→Dd ls l t f m≤Dd ls l t f n
 | 0,h,_=>by rw[show m=0 by omega];exact Int.le_refl _
 | n+1,h,hl=>by
  by_cases e:m=n+1
  ·rw [e];exact Int.le_refl _
  ·have ih:=OR ok t f (m:=m) (n:=n) (by omega) (by omega)
   have := ok.bytes n (by omega)
   simp only[Dd]
   split <;> omega
theorem QW {hn:Int} {ls:List Lnk} {l:List Snd} (ok:OKr hn ls l) (t f:Int):∀n,n≤l.length→0≤Dd ls l t f n∧Dd ls l t f n≤1073741824*(n:Int)
 | 0,_=>by simp[Dd]
 | n+1,h=>by
  have ih:=QW ok t f n (by omega)
  have := ok.bytes n (by omega)
  simp only[Dd]
  split <;> omega
theorem OS {ls:List Lnk} {l:List Snd} {k:Nat}:∀n,k<n→∃j,j<n∧(l.getD j dS).2.1=(l.getD k dS).2.1∧frM ls l j=frM ls l k∧Dd ls l (l.getD k dS).2.1 (frM ls l k) (j+1)=Dd ls l (l.getD k dS).2.1 (frM ls l k) n
 | 0,h=>absurd h (by omega)
 | n+1,h=>by
  by_cases hm:(l.getD n dS).2.1=(l.getD k dS).2.1∧frM ls l n=frM ls l k
  ·exact ⟨n,by omega,hm.1,hm.2,rfl⟩
  ·have hk:k≠n:=fun e=>hm (by rw[e];exact⟨rfl,rfl⟩)
   obtain ⟨j,h1,h2,h3,h4⟩:=OS (ls:=ls) (l:=l) (k:=k) n (by omega)
   refine ⟨j,by omega,h2,h3,?_⟩
   rw [h4]
   simp only[Dd]
   rw [if_neg hm,Int.add_zero]
theorem Ae6 {hn:Int} {ls:List Lnk} {l:List Snd} {d:Dem} (ok:OKr hn ls l):svP ls l d l.length=svR ls l d l.length:=by
 rw [Bool.eq_iff_iff,QV,svR_iff]
 constructor
 ·rintro ⟨k,h,g⟩
  have := OR ok (l.getD k dS).2.1 (frM ls l k) (m:=k+1) (n:=l.length) (by omega) (by omega)
  exact ⟨k,h,by omega⟩
 ·rintro ⟨k,h,g⟩
  obtain ⟨j,h1,h2,h3,h4⟩:=OS (ls:=ls) (l:=l) (k:=k) l.length h
  exact ⟨j,h1,by rw[h2,h3,h4];exact g⟩
def A9 (hn:Int) (ls:List Lnk) (l:List Snd) (d:Dem):Int :=
 if AL hn ls l≠0 then AL hn ls l else if Dc hn d=false then 1 else if Br hn ls l≠0 then Br hn ls l
 else if svR ls l d l.length=true then 4 else if BA ls l d d.2.1 d.2.2.2.2<d.2.2.1 then 21 else 0
theorem XY {k:Nat} {n:Nat} (h:k<n) (hn:n≤2000):IntKind.i64.wrap ((k:Int)+1)=((k+1:Nat):Int):=by rw[Af (by omega) (by omega)];omega
noncomputable def HE:(Int)×(List Lnk)×(List Snd)×(Dem)→List PV:=fun (hn,ls,l,d) => [.agg [I hn,Ax ls],Aw l,B6 d]
noncomputable def TI:(Int)×(List Lnk)×(List Snd)×(Dem)→PV:=fun (hn,ls,l,d)=>I (A9 hn ls l d)
def TJ:(Int)×(List Lnk)×(List Snd)×(Dem)→Prop:=fun (hn,ls,l,d)=>True
noncomputable def e_serves:Nat×Ent:=(58,.v (Ag HE TI TJ))
theorem nY:∀i j,HE i=HE j→i=j:=by
 rintro ⟨hn₁,ls₁,l₁,d₁⟩ ⟨hn₂,ls₂,l₂,d₂⟩ h
 simp only[HE,List.cons.injEq,and_true,PV.lits.injEq,PV.int.injEq,PV.agg.injEq,true_and,AK,AD]at h
 simp [Prod.ext_iff,h] <;> omega
theorem nZ (hn:Int) (ls:List Lnk) (l:List Snd) (d:Dem):Ag HE TI TJ [.agg [I hn,Ax ls],Aw l,B6 d]=some (I (A9 hn ls l d)):=Az nY (i:=(hn,ls,l,d)) trivial
def TK:Prop:=∀(hn:Int) (ls:List Lnk) (l:List Snd) (d:Dem) ,VC Try.prog 58 [.agg [I hn,Ax ls],Aw l,B6 d] (I (A9 hn ls l d))
def TL:Prop:=AM Try.prog e_serves.1 e_serves.2
theorem oA (c:TK):TL:=Ao fun⟨hn,ls,l,d⟩ h=>c hn ls l d
theorem oB:TK:=by
 intro hn ls l d
 refine AW AO (l := [e_right,e_demanded,e_fits,e_stock]) ((Ad JV (Ad MT (Ad nC (Ad XU An))))) [92] []  Try.func58 rfl (by decide +kernel) (N:=96) rfl (by simp) rfl (by kernel_rfl) fun hs=>?_
 simp only[AH,PV.small,List.length_map,and_true,true_and]at hs
 by_cases h:AL hn ls l=0
 case neg =>
  rw [show A9 hn ls l d=AL hn ls l by simp[A9,h]]
  generalize hr:AL hn ls l=r at *
  simp +contextual (maxSteps:=4000000) only[↓bdD,bdP,Nat.reduceLT,Nat.reduceBEq,Ai,Nat.reduceAdd,st0,↓reduceIte,e_right,BX,e_demanded,e_fits,e_stock,Ac,Ab,Try.f58,Aq,AB,h,hr]
 have ok:=right_zero.1 h
 have hlen:=ok.len
 cases hd:Dc hn d
 ·rw [show A9 hn ls l d=1 by simp[A9,h,hd]]
  simp +contextual (maxSteps:=4000000) only[↓bdD,bdP,Nat.reduceLT,Nat.reduceBEq,Ai,Nat.reduceEqDiff,Nat.reduceAdd,st0,↓reduceIte,e_right,BX,e_demanded,CK,e_fits,e_stock,Ac,Ab,Try.f58,Aq,AB,AP,h,hd]
 have hdb:=QQ hd
 by_cases hf:Br hn ls l=0
 case neg =>
  rw [show A9 hn ls l d=Br hn ls l by simp[A9,h,hd,hf]]
  generalize hr:Br hn ls l=r at *
  simp +contextual (maxSteps:=4000000) only[↓bdD,bdP,Nat.reduceLT,Nat.reduceBEq,Ai,Nat.reduceEqDiff,Nat.reduceAdd,st0,↓reduceIte,e_right,BX,e_demanded,CK,e_fits,KM,e_stock,Ac,Ab,Try.f58,Aq,AB,AP,h,hd,hf,hr]
 have hM:A9 hn ls l d=if svP ls l d l.length=true then 4 else if BA ls l d d.2.1 d.2.2.2.2<d.2.2.1 then 21 else 0:=by simp[A9,h,hd,hf,Ae6 ok]
 rw [hM]
 clear hM
 generalize hr:(if svP ls l d l.length=true then (4:Int)else if BA ls l d d.2.1 d.2.2.2.2<d.2.2.1 then 21 else 0)=r
 simp +contextual (maxSteps:=4000000) only[↓bdD,bdP,Nat.reduceLT,Nat.reduceBEq,Nat.reduceEqDiff,Nat.reduceAdd,st0,↓reduceIte,e_right,BX,e_demanded,CK,e_fits,KM,e_stock,Ac,Ab,Try.f58,Aq,AB,AP,h,hd,hf]
 refine Ar [6,9,10,11,12,14,33,34,35,36,37,38,39,40,41,42,43,44,45,46,47,48,49,50,51,52,53,54,55,56,57,58,59,60,61,62,63,64,65,66,67,68,69,70,71,72,73,74,75,76,77,78,79,80,81,82,83,84] l.length (fun k ρ st'=>ρ 33=I k∧svP ls l d k=false) (.refl _) ?_ ?_
 ·simp +contextual (maxSteps:=4000000) only[↓bdD,bdP,svP]
 ·rintro k ρ ⟨ob,M⟩ hk ⟨h33,hz⟩
  by_cases hlt:k<l.length
  ·have hw1:=XY hlt hlen
   have e1:=ok.link k hlt
   have hs:svP ls l d (k+1)=decide (BA ls l d (frM ls l k) (l.getD k dS).2.1<Dd ls l (l.getD k dS).2.1 (frM ls l k) (k+1)):=by simp only[svP,hz,Bool.false_or]
   have hle:=QW ok (l.getD k dS).2.1 (frM ls l k)
   have htk:List.take (k+1-0) (l.map G7)=(l.take (k+1)).map G7:=List.map_take.symm
   have htl:(l.take (k+1)).length=k+1:=by simp;omega
   have htg:∀i,i<k+1→(l.take (k+1)).getD i dS=l.getD i dS:=fun i hi=>by simp[hi]
   have hk1:((k+1:Nat):Int)≤(l.length:Int):=by omega
   have hfr:frM ls l k=(ls.getD (l.getD k dS).1.toNat dL).1:=rfl
   generalize hf:frM ls l k=f at *
   generalize hx:l.getD k dS=x at *
   have h5:=Ci e1.1 e1.2
   have h6:=Int.toNat_of_nonneg e1.1
   generalize x.1.toNat=kk at *
   have nM:¬M=M+1:=by omega
   simp +contextual (maxSteps:=4000000) only[↓bdD,bdP,Nat.reduceLT,Nat.reduceBEq,Nat.reduceAdd,Int.reduceToNat,Store.new,Store.set,↓reduceIte,Ay,A7,Db,ty3,Bq,Aq,AB,B0,Bv,h33,hlt,hx,h5,←h6,hw1,htk,htl,hk1,←hfr]
   refine Ar [12,14,50,51,52,53,54,55,56,57,58,59,60,61,62,63,64,65,66,67,68,69,70,71,72,73,74] (k+1) (fun i ρ st'=>ρ 50=I i∧ρ 12=I (Dd ls l x.2.1 f i)∧st'.obj M=some (.arr 0 3 [.agg [I kk,I x.2.1,I x.2.2]])∧M<st'.next) (.refl _) ?_ ?_
   ·simp +contextual (maxSteps:=4000000) only[↓bdD,bdP,Nat.reduceBEq,Dd]
   ·rintro i ρ2 ⟨ob2,M2⟩ hi ⟨h50,h12,hob,hMM⟩
    dsimp only at hob hMM
    have q1:¬M=M2:=by omega
    by_cases hilt:i<k+1
    ·have hw2:IntKind.i64.wrap ((i:Int)+1)=((i+1:Nat):Int):=XY hilt (by omega)
     have hil:i<l.length:=by omega
     have e2:=ok.link i hil
     have b2:=ok.bytes i hil
     have hst:Dd ls l x.2.1 f (i+1)=Dd ls l x.2.1 f i+if (l.getD i dS).2.1=x.2.1∧frM ls l i=f then (l.getD i dS).2.2 else 0:=rfl
     have hl2:=hle i (by omega)
     have hg:=htg i hilt
     have hfi:frM ls l i=(ls.getD (l.getD i dS).1.toNat dL).1:=rfl
     rw [hfi]at hst
     generalize hy:l.getD i dS=y at *
     have h52:=Ci e2.1 e2.2
     have h62:=Int.toNat_of_nonneg e2.1
     generalize y.1.toNat=jj at *
     by_cases c1:y.2.1=x.2.1
     ·by_cases c2:(ls.getD jj dL).1=f
      ·rw [if_pos ⟨c1,c2⟩]at hst
       have hw3:IntKind.i64.wrap (Dd ls l x.2.1 f i+y.2.2)=Dd ls l x.2.1 f (i+1):=by rw[hst,Af (by omega) (by omega)]
       simp +contextual (maxSteps:=4000000) only[↓bdD,bdP,Nat.reduceLT,Nat.reduceBEq,Nat.reduceAdd,Store.new,Store.set,↓reduceIte,Ay,A7,Db,ty3,Bq,Aq,AB,B0,Bv,h50,h12,hob,q1,hilt,htl,hg,h52,←h62,c1,c2,hw2,hw3]
       omega
      ·rw [if_neg (fun h=>c2 h.2),Int.add_zero]at hst
       rw [hst]
       simp +contextual (maxSteps:=4000000) only[↓bdD,bdP,Nat.reduceLT,Nat.reduceBEq,Nat.reduceAdd,Store.new,Store.set,↓reduceIte,Ay,A7,Db,ty3,Bq,Aq,AB,B0,Bv,h50,h12,hob,q1,hilt,htl,hg,h52,←h62,c1,c2,hw2]
       omega
     ·rw [if_neg (fun h=>c1 h.1),Int.add_zero]at hst
      rw [hst]
      simp +contextual (maxSteps:=4000000) only[↓bdD,bdP,Nat.reduceLT,Nat.reduceBEq,Nat.reduceAdd,Store.new,Store.set,↓reduceIte,Ay,ty3,AB,Bv,h50,h12,hob,q1,hilt,htl,hg,c1,hw2]
      omega
    ·have e:i=k+1:=by omega
     subst e
     by_cases hb:BA ls l d f x.2.1<Dd ls l x.2.1 f (k+1)
     ·rw [decide_eq_true hb]at hs
      have hend:svP ls l d l.length=true:=by
       rw [QV]at hs ⊢
       obtain ⟨j,j1,j2⟩:=hs
       exact ⟨j,by omega,j2⟩
      rw [if_pos hend]at hr
      subst hr
      simp +contextual (maxSteps:=4000000) only[↓bdD,bdP,Nat.reduceLT,Nat.reduceBEq,Ai,Nat.reduceEqDiff,Nat.reduceAdd,↓reduceIte,J2,Ac,Ab,ty3,Aq,AB,AP,Bv,h50,h12,hob,ok,hdb,hb]
     ·rw [decide_eq_false hb]at hs
      simp +contextual (maxSteps:=4000000) only[↓bdD,bdP,Nat.reduceLT,Nat.reduceBEq,Nat.reduceEqDiff,Nat.reduceAdd,↓reduceIte,J2,Ac,Ab,ty3,Aq,AB,AP,Bv,h50,h12,hob,ok,hdb,hb,hs,hw1,h33]
      rw [AC (by decide +kernel)];simp +contextual (maxSteps:=4000000) only[↓bdD,bdP,Nat.reduceBEq]
  ·have e:k=l.length:=by omega
   subst e
   rw [hz,if_neg (by simp)]at hr
   by_cases hb:BA ls l d d.2.1 d.2.2.2.2<d.2.2.1
   ·rw [if_pos hb]at hr
    subst hr
    simp +contextual (maxSteps:=4000000) only[↓bdD,bdP,Nat.reduceLT,Nat.reduceBEq,Ai,Nat.reduceEqDiff,Nat.reduceAdd,↓reduceIte,J2,Ac,Ab,ty3,Aq,AB,AP,h33,ok,hdb,hb]
   ·rw [if_neg hb]at hr
    subst hr
    simp +contextual (maxSteps:=4000000) only[↓bdD,bdP,Nat.reduceLT,Nat.reduceBEq,Ai,Nat.reduceEqDiff,Nat.reduceAdd,↓reduceIte,J2,Ac,Ab,ty3,Aq,AB,AP,h33,ok,hdb,hb]
theorem oC:TL:=oA oB
noncomputable def FX:(Int)×(List Lnk)×(List Snd)×(Dem)→List PV:=fun (hn,ls,l,d) => [.agg [I hn,Ax ls],Aw l,B6 d]
noncomputable def OT:(Int)×(List Lnk)×(List Snd)×(Dem)→PV:=fun (hn,ls,l,d)=>I (A9 hn ls l d)
def OU:(Int)×(List Lnk)×(List Snd)×(Dem)→Prop:=fun (hn,ls,l,d)=>True
noncomputable def e_rserves:Nat×Ent:=(47,.v (Ag FX OT OU))
theorem cM:∀i j,FX i=FX j→i=j:=by
 rintro ⟨hn₁,ls₁,l₁,d₁⟩ ⟨hn₂,ls₂,l₂,d₂⟩ h
 simp only[FX,List.cons.injEq,and_true,PV.lits.injEq,PV.int.injEq,PV.agg.injEq,true_and,AK,AD]at h
 simp [Prod.ext_iff,h] <;> omega
theorem cN (hn:Int) (ls:List Lnk) (l:List Snd) (d:Dem):Ag FX OT OU [.agg [I hn,Ax ls],Aw l,B6 d]=some (I (A9 hn ls l d)):=Az cM (i:=(hn,ls,l,d)) trivial
def OV:Prop:=∀(hn:Int) (ls:List Lnk) (l:List Snd) (d:Dem) ,VC Try.prog 47 [.agg [I hn,Ax ls],Aw l,B6 d] (I (A9 hn ls l d))
def OW:Prop:=AM Try.prog e_rserves.1 e_rserves.2
theorem cO (c:OV):OW:=Ao fun⟨hn,ls,l,d⟩ h=>c hn ls l d
theorem cP:OV:=by
 intro hn ls l d
 refine AW AO (l := [e_rright,e_rdemand,e_rfits,e_have]) ((Ad JW (Ad OM (Ad XI (Ad Ae5 An))))) [94,103] []  Try.func47 rfl (by decide +kernel) (N:=107) rfl (by simp) rfl (by kernel_rfl) fun hs=>?_
 simp only[AH,PV.small,List.length_map,and_true,true_and]at hs
 by_cases h:AL hn ls l=0
 case neg =>
  rw [show A9 hn ls l d=AL hn ls l by simp[A9,h]]
  generalize hr:AL hn ls l=r at *
  simp +contextual (maxSteps:=4000000) only[↓bdD,bdP,Nat.reduceLT,Nat.reduceBEq,Ai,Nat.reduceAdd,st0,↓reduceIte,e_rright,Cz,e_rdemand,e_rfits,e_have,Ac,Ab,Try.f47,Aq,AB,h,hr]
 have ok:=right_zero.1 h
 have hlen:=ok.len
 cases hd:Dc hn d
 ·rw [show A9 hn ls l d=1 by simp[A9,h,hd]]
  simp +contextual (maxSteps:=4000000) only[↓bdD,bdP,Nat.reduceLT,Nat.reduceBEq,Ai,Nat.reduceEqDiff,Nat.reduceAdd,st0,↓reduceIte,e_rright,Cz,e_rdemand,ES,e_rfits,e_have,Ac,Ab,Try.f47,Aq,AB,AP,h,hd]
 have hdb:=QQ hd
 by_cases hf:Br hn ls l=0
 case neg =>
  rw [show A9 hn ls l d=Br hn ls l by simp[A9,h,hd,hf]]
  generalize hr:Br hn ls l=r at *
  simp +contextual (maxSteps:=4000000) only[↓bdD,bdP,Nat.reduceLT,Nat.reduceBEq,Ai,Nat.reduceEqDiff,Nat.reduceAdd,st0,↓reduceIte,e_rright,Cz,e_rdemand,ES,e_rfits,Ib,e_have,Ac,Ab,Try.f47,Aq,AB,AP,h,hd,hf,hr]
 have hM:A9 hn ls l d=if svR ls l d l.length=true then 4 else if BA ls l d d.2.1 d.2.2.2.2<d.2.2.1 then 21 else 0:=by simp[A9,h,hd,hf]
 rw [hM]
 clear hM
 generalize hr:(if svR ls l d l.length=true then (4:Int)else if BA ls l d d.2.1 d.2.2.2.2<d.2.2.1 then 21 else 0)=r
 simp +contextual (maxSteps:=4000000) only[↓bdD,bdP,Nat.reduceLT,Nat.reduceBEq,Nat.reduceEqDiff,Nat.reduceAdd,st0,↓reduceIte,e_rright,Cz,e_rdemand,ES,e_rfits,Ib,e_have,Ac,Ab,Try.f47,Aq,AB,AP,h,hd,hf]
 refine Ar [6,9,10,11,12,30,31,32,33,34,35,36,37,38,39,40,41,42,43,44,45,46,47,48,49,50,51,52,53,54,55,56,57,58,59,60,61,62,63,64,65,66,67,68,69,70,71,72,73,74,75,76,77,78,79,80,81,82,83,84,85,86,87,88,89,90,91,92,93,94,95] l.length (fun k ρ st'=>ρ 9=I k∧svR ls l d k=false) (.refl _) ?_ ?_
 ·simp +contextual (maxSteps:=4000000) only[↓bdD,bdP,svR]
 ·rintro k ρ ⟨ob,M⟩ hk ⟨h33,hz⟩
  by_cases hlt:k<l.length
  ·have hw1:=XY hlt hlen
   have e1:=ok.link k hlt
   have hs:svR ls l d (k+1)=decide (BA ls l d (frM ls l k) (l.getD k dS).2.1<Dd ls l (l.getD k dS).2.1 (frM ls l k) l.length):=by simp only[svR,hz,Bool.false_or]
   have hle:=QW ok (l.getD k dS).2.1 (frM ls l k)
   have hfr:frM ls l k=(ls.getD (l.getD k dS).1.toNat dL).1:=rfl
   generalize hf:frM ls l k=f at *
   generalize hx:l.getD k dS=x at *
   have h5:=Ci e1.1 e1.2
   have h6:=Int.toNat_of_nonneg e1.1
   generalize x.1.toNat=kk at *
   simp +contextual (maxSteps:=4000000) only[↓bdD,bdP,Nat.reduceLT,Nat.reduceBEq,Nat.reduceAdd,↓reduceIte,Ay,A7,Db,ty3,Bq,Aq,AB,B0,Bv,h33,hlt,hx,h5,←h6,←hfr]
   refine Ar [11,12,46,47,48,49,50,51,52,53,54,55,56,57,58,59,60,61,62,63,64,65,66,67,68,69,70,71,72,73,74,75,76,77,78,79,80,81,82,83] l.length (fun i ρ st'=>ρ 12=I i∧ρ 11=I (Dd ls l x.2.1 f i)) (.refl _) ?_ ?_
   ·simp +contextual (maxSteps:=4000000) only[↓bdD,bdP,Nat.reduceBEq,Dd]
   ·rintro i ρ2 ⟨ob2,M2⟩ hi ⟨h50,h12⟩
    by_cases hilt:i<l.length
    ·have hw2:IntKind.i64.wrap ((i:Int)+1)=((i+1:Nat):Int):=XY hilt (by omega)
     have e2:=ok.link i hilt
     have b2:=ok.bytes i hilt
     have hst:Dd ls l x.2.1 f (i+1)=Dd ls l x.2.1 f i+if (l.getD i dS).2.1=x.2.1∧frM ls l i=f then (l.getD i dS).2.2 else 0:=rfl
     have hl2:=hle i (by omega)
     have hfi:frM ls l i=(ls.getD (l.getD i dS).1.toNat dL).1:=rfl
     rw [hfi]at hst
     generalize hy:l.getD i dS=y at *
     have h52:=Ci e2.1 e2.2
     have h62:=Int.toNat_of_nonneg e2.1
     generalize y.1.toNat=jj at *
     by_cases c1:y.2.1=x.2.1
     ·by_cases c2:(ls.getD jj dL).1=f
      ·rw [if_pos ⟨c1,c2⟩]at hst
       have hw3:IntKind.i64.wrap (Dd ls l x.2.1 f i+y.2.2)=Dd ls l x.2.1 f (i+1):=by rw[hst,Af (by omega) (by omega)]
       simp +contextual (maxSteps:=4000000) only[↓bdD,bdP,Nat.reduceLT,Nat.reduceBEq,Nat.reduceAdd,↓reduceIte,Ay,A7,Db,ty3,Bq,Aq,AB,B0,Bv,h33,h50,h12,hlt,hx,hilt,hy,h52,←h62,c1,c2,hw2,hw3]
      ·rw [if_neg (fun h=>c2 h.2),Int.add_zero]at hst
       rw [hst]
       simp +contextual (maxSteps:=4000000) only[↓bdD,bdP,Nat.reduceLT,Nat.reduceBEq,Nat.reduceAdd,↓reduceIte,Ay,A7,Db,ty3,Bq,Aq,AB,B0,Bv,h33,h50,h12,hlt,hx,hilt,hy,h52,←h62,c1,c2,hw2]
     ·rw [if_neg (fun h=>c1 h.1),Int.add_zero]at hst
      rw [hst]
      simp +contextual (maxSteps:=4000000) only[↓bdD,bdP,Nat.reduceLT,Nat.reduceBEq,Nat.reduceAdd,↓reduceIte,Ay,ty3,AB,Bv,h33,h50,h12,hlt,hx,hilt,hy,c1,hw2]
    ·have e:i=l.length:=by omega
     subst e
     by_cases hb:BA ls l d f x.2.1<Dd ls l x.2.1 f l.length
     ·rw [decide_eq_true hb]at hs
      have hend:svR ls l d l.length=true:=by
       rw [svR_iff]at hs ⊢
       obtain ⟨j,j1,j2⟩:=hs
       exact ⟨j,by omega,j2⟩
      rw [if_pos hend]at hr
      subst hr
      simp +contextual (maxSteps:=4000000) only[↓bdD,bdP,Nat.reduceLT,Nat.reduceBEq,Ai,Nat.reduceEqDiff,Nat.reduceAdd,↓reduceIte,QP,Ay,Ac,Ab,ty3,Aq,AB,AP,Bv,h33,h50,h12,hlt,hx,ok,hdb,hb]
     ·rw [decide_eq_false hb]at hs
      simp +contextual (maxSteps:=4000000) only[↓bdD,bdP,Nat.reduceLT,Nat.reduceBEq,Nat.reduceEqDiff,Nat.reduceAdd,↓reduceIte,QP,Ay,Ac,Ab,ty3,Aq,AB,AP,Bv,h50,h12,hlt,hx,ok,hdb,hb,hs,hw1,h33]
      rw [AC (by decide +kernel)];simp +contextual (maxSteps:=4000000) only[↓bdD,bdP,Nat.reduceBEq]
  ·have e:k=l.length:=by omega
   subst e
   rw [hz,if_neg (by simp)]at hr
   by_cases hb:BA ls l d d.2.1 d.2.2.2.2<d.2.2.1
   ·rw [if_pos hb]at hr
    subst hr
    simp +contextual (maxSteps:=4000000) only[↓bdD,bdP,Nat.reduceLT,Nat.reduceBEq,Ai,Nat.reduceEqDiff,Nat.reduceAdd,↓reduceIte,QP,Ac,Ab,ty3,Aq,AB,AP,h33,ok,hdb,hb]
   ·rw [if_neg hb]at hr
    subst hr
    simp +contextual (maxSteps:=4000000) only[↓bdD,bdP,Nat.reduceLT,Nat.reduceBEq,Ai,Nat.reduceEqDiff,Nat.reduceAdd,↓reduceIte,QP,Ac,Ab,ty3,Aq,AB,AP,h33,ok,hdb,hb]
theorem cQ:OW:=cO cP
end Sim
