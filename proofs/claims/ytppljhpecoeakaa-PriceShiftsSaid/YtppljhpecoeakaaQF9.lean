/- What functions of this seat compute, by values: contracts (lemmas of the statement's proof, under the conditions that each names). -/
import Derived.Test.YtppljhpecoeakaaQN7
import Derived.Test.YtppljhpecoeakaaQV
set_option maxRecDepth 10000
set_option maxHeartbeats 2000000
set_option linter.unusedVariables false
set_option linter.unusedSimpArgs false
namespace Sim
open Go Go.Proofs
attribute [local congr] Ap Aq Al AC As Ar Av Gq
def Du (hn:Int) (ls:List Lnk) (l:List Snd) (d:Dem) (at_ tick:Int):Int×Int :=
 if AS hn ls l≠0 then (0,AS hn ls l)else if Dd hn d=false∨hOK hn at_=false∨tick<0∨1000000<tick then (0,1)else (B1 ls l d at_ tick,0)
theorem Wm {hn:Int} {d:Dem} (h:Dd hn d=true):Wl d:=by
 simp only[Dd,Bool.and_eq_true,decide_eq_true_eq]at h
 obtain ⟨_,h⟩:=h
 unfold DU at h
 exact ⟨by omega,h.2.1⟩
noncomputable def H7:(Int)×(List Lnk)×(List Snd)×(Dem)×(Int)×(Int)→List PV:=fun (hn,ls,l,d,at_,tick) => [.agg [I hn,Az ls],AB l,Cr d,I at_,I tick]
noncomputable def Qw:(Int)×(List Lnk)×(List Snd)×(Dem)×(Int)×(Int)→PV:=fun (hn,ls,l,d,at_,tick)=>.tuple [I (Du hn ls l d at_ tick).1,I (Du hn ls l d at_ tick).2]
def Qx:(Int)×(List Lnk)×(List Snd)×(Dem)×(Int)×(Int)→Prop:=fun (hn,ls,l,d,at_,tick)=>True
noncomputable def e_Stock:Nat×Ent:=(43,.v (Ah H7 Qw Qx))
theorem xQ:∀i j,H7 i=H7 j→i=j:=by
 rintro ⟨hn₁,ls₁,l₁,d₁,at_₁,tick₁⟩ ⟨hn₂,ls₂,l₂,d₂,at_₂,tick₂⟩ h
 simp only[H7,List.cons.injEq,and_true,PV.lits.injEq,PV.int.injEq,PV.agg.injEq,true_and,AR,AG]at h
 simp [Prod.ext_iff,h] <;> omega
theorem Qy (hn:Int) (ls:List Lnk) (l:List Snd) (d:Dem) (at_:Int) (tick:Int):Ah H7 Qw Qx [.agg [I hn,Az ls],AB l,Cr d,I at_,I tick]=some (.tuple [I (Du hn ls l d at_ tick).1,I (Du hn ls l d at_ tick).2]):=AA xQ (i:=(hn,ls,l,d,at_,tick)) trivial
def Xr:Prop:=∀(hn:Int) (ls:List Lnk) (l:List Snd) (d:Dem) (at_:Int) (tick:Int) ,VC Try.prog 43 [.agg [I hn,Az ls],AB l,Cr d,I at_,I tick] (.tuple [I (Du hn ls l d at_ tick).1,I (Du hn ls l d at_ tick).2])
def Xs:Prop:=AM Try.prog e_Stock.1 e_Stock.2
theorem xR (c:Xr):Xs:=At fun⟨hn,ls,l,d,at_,tick⟩ h=>c hn ls l d at_ tick
theorem xS:Xr:=by
 intro hn ls l d at_ tick
 refine A5 AP (l := [e_right,e_demanded,e_stock]) ((Ae JX (Ae MQ (Ae Xq Ao)))) [] []  Try.func43 rfl (by decide +kernel) (N:=47) rfl (by simp) rfl (by kernel_rfl) fun hs=>?_
 simp only[AI,PV.small,List.length_map,and_true,true_and]at hs
 by_cases h:AS hn ls l=0
 case neg =>
  rw [show Du hn ls l d at_ tick=(0,AS hn ls l) by simp[Du,h]]
  generalize hr:AS hn ls l=r at *
  simp +contextual (maxSteps:=4000000) only[↓bdD,bdP,Nat.reduceLT,Nat.reduceBEq,Ai,Nat.reduceAdd,st0,↓reduceIte,e_right,BP,e_demanded,e_stock,Ac,Ab,Try.f43,Aw,AJ,h,hr]
 have ok:=right_zero.1 h
 have hM:Du hn ls l d at_ tick=if Dd hn d=false∨hOK hn at_=false∨tick<0∨1000000<tick then (0,1)else (B1 ls l d at_ tick,0):=by simp[Du,h]
 rw [hM]
 clear hM
 cases hd:Dd hn d
 ·simp +contextual (maxSteps:=4000000) only[↓bdD,bdP,Nat.reduceLT,Nat.reduceBEq,Ai,Nat.reduceEqDiff,Nat.reduceAdd,st0,↓reduceIte,e_right,BP,e_demanded,CM,e_stock,Ac,Ab,Try.f43,Aw,AJ,AX,true_or,h,hd]
 have hdb:=Wm hd
 by_cases h1:at_<0
 ·have : hOK hn at_=false:=decide_eq_false (by omega)
  simp +contextual (maxSteps:=4000000) only[↓bdD,bdP,Nat.reduceLT,Nat.reduceBEq,Ai,Nat.reduceEqDiff,Nat.reduceAdd,st0,↓reduceIte,e_right,BP,e_demanded,CM,e_stock,Ac,Ab,Try.f43,Aw,AJ,AX,true_or,h,hd,h1,this]
 by_cases h2:hn≤at_
 ·have : hOK hn at_=false:=decide_eq_false (by omega)
  simp +contextual (maxSteps:=4000000) only[↓bdD,bdP,Nat.reduceLT,Nat.reduceBEq,Ai,Nat.reduceEqDiff,Nat.reduceAdd,st0,↓reduceIte,e_right,BP,e_demanded,CM,e_stock,Ac,Ab,Try.f43,ty3,Aw,AJ,AX,true_or,h,hd,h1,h2,this]
 have hk:hOK hn at_=true:=decide_eq_true (by omega)
 by_cases h3:tick<0
 ·simp +contextual (maxSteps:=4000000) only[↓bdD,bdP,Nat.reduceLT,Nat.reduceBEq,Ai,Nat.reduceEqDiff,Nat.reduceAdd,st0,↓reduceIte,e_right,BP,e_demanded,CM,e_stock,Ac,Ab,Try.f43,ty3,Aw,AJ,AX,true_or,h,hd,h1,h2,h3,hk]
 by_cases h4:1000000<tick
 ·simp +contextual (maxSteps:=4000000) only[↓bdD,bdP,Nat.reduceLT,Nat.reduceBEq,Ai,Nat.reduceEqDiff,Nat.reduceAdd,st0,↓reduceIte,e_right,BP,e_demanded,CM,e_stock,Ac,Ab,Try.f43,ty3,Aw,AJ,AX,h,hd,h1,h2,h3,h4,hk]
 simp +contextual (maxSteps:=4000000) only[↓bdD,bdP,Nat.reduceLT,Nat.reduceBEq,Ai,Nat.reduceEqDiff,Nat.reduceAdd,st0,↓reduceIte,e_right,BP,e_demanded,CM,e_stock,J2,Ac,Ab,Try.f43,ty3,Aw,AJ,AX,h,hd,h1,h2,h3,h4,hk,ok,hdb]
theorem Xt:Xs:=xR xS
def frM (ls:List Lnk) (l:List Snd) (k:Nat):Int:=(Cd ls (l.getD k dS)).1
def Ea (ls:List Lnk) (l:List Snd) (t f:Int):Nat→Int
 | 0=>0
 | n+1=>Ea ls l t f n+if (l.getD n dS).2.1=t∧frM ls l n=f then (l.getD n dS).2.2 else 0
def svP (ls:List Lnk) (l:List Snd) (d:Dem):Nat→Bool
 | 0=>false
 | k+1=>svP ls l d k||decide (B1 ls l d (frM ls l k) (l.getD k dS).2.1<Ea ls l (l.getD k dS).2.1 (frM ls l k) (k+1))
def svR (ls:List Lnk) (l:List Snd) (d:Dem):Nat→Bool
 | 0=>false
 | k+1=>svR ls l d k||decide (B1 ls l d (frM ls l k) (l.getD k dS).2.1<Ea ls l (l.getD k dS).2.1 (frM ls l k) l.length)
theorem Qz {ls:List Lnk} {l:List Snd} {d:Dem}:∀ {n},svP ls l d n=true↔∃k,k<n∧B1 ls l d (frM ls l k) (l.getD k dS).2.1<Ea ls l (l.getD k dS).2.1 (frM ls l k) (k+1)
 | 0=>⟨fun h=>(by cases h),fun⟨k,h,_⟩=>absurd h (by omega)⟩
 | n+1=>by
  simp only[svP,Bool.or_eq_true,decide_eq_true_eq,Qz (n:=n)]
  constructor
  ·rintro (⟨k,h,g⟩ | h)
   ·exact ⟨k,by omega,g⟩
   ·exact ⟨n,by omega,h⟩
  ·rintro ⟨k,h,g⟩
   by_cases e:k=n
   ·subst e;exact .inr g
   ·exact .inl ⟨k,by omega,g⟩
theorem svR_iff {ls:List Lnk} {l:List Snd} {d:Dem}:∀ {n},svR ls l d n=true↔∃k,k<n∧B1 ls l d (frM ls l k) (l.getD k dS).2.1<Ea ls l (l.getD k dS).2.1 (frM ls l k) l.length
 | 0=>⟨fun h=>(by cases h),fun⟨k,h,_⟩=>absurd h (by omega)⟩
 | n+1=>by
  simp only[svR,Bool.or_eq_true,decide_eq_true_eq,svR_iff (n:=n)]
  constructor
  ·rintro (⟨k,h,g⟩ | h)
   ·exact ⟨k,by omega,g⟩
   ·exact ⟨n,by omega,h⟩
  ·rintro ⟨k,h,g⟩
   by_cases e:k=n
   ·subst e;exact .inr g
   ·exact .inl ⟨k,by omega,g⟩
theorem OJ {hn:Int} {ls:List Lnk} {l:List Snd} (ok:OKr hn ls l) (t f:Int) {m:Nat}:∀ {n},m≤n→n≤l.length→Ea ls l t f m≤Ea ls l t f n
 | 0,h,_=>by rw[show m=0 by omega];exact Int.le_refl _
 | n+1,h,hl=>by
  by_cases e:m=n+1
  ·rw [e];exact Int.le_refl _
  ·have ih:=OJ ok t f (m:=m) (n:=n) (by omega) (by omega)
   have := ok.bytes n (by omega)
   simp only[Ea]
   split <;> omega
theorem Xu {hn:Int} {ls:List Lnk} {l:List Snd} (ok:OKr hn ls l) (t f:Int):∀n,n≤l.length→0≤Ea ls l t f n∧Ea ls l t f n≤1073741824*(n:Int)
 | 0,_=>by simp[Ea]
 | n+1,h=>by
  have ih:=Xu ok t f n (by omega)
  have := ok.bytes n (by omega)
  simp only[Ea]
  split <;> omega
theorem OL {ls:List Lnk} {l:List Snd} {k:Nat}:∀n,k<n→∃j,j<n∧(l.getD j dS).2.1=(l.getD k dS).2.1∧frM ls l j=frM ls l k∧Ea ls l (l.getD k dS).2.1 (frM ls l k) (j+1)=Ea ls l (l.getD k dS).2.1 (frM ls l k) n
 | 0,h=>absurd h (by omega)
 | n+1,h=>by
  by_cases hm:(l.getD n dS).2.1=(l.getD k dS).2.1∧frM ls l n=frM ls l k
  ·exact ⟨n,by omega,hm.1,hm.2,rfl⟩
  ·have hk:k≠n:=fun e=>hm (by rw[e];exact⟨rfl,rfl⟩)
   obtain ⟨j,h1,h2,h3,h4⟩:=OL (ls:=ls) (l:=l) (k:=k) n (by omega)
   refine ⟨j,by omega,h2,h3,?_⟩
   rw [h4]
   simp only[Ea]
   rw [if_neg hm,Int.add_zero]
theorem Adw {hn:Int} {ls:List Lnk} {l:List Snd} {d:Dem} (ok:OKr hn ls l):svP ls l d l.length=svR ls l d l.length:=by
 rw [Bool.eq_iff_iff,Qz,svR_iff]
 constructor
 ·rintro ⟨k,h,g⟩
  have := OJ ok (l.getD k dS).2.1 (frM ls l k) (m:=k+1) (n:=l.length) (by omega) (by omega)
  exact ⟨k,h,by omega⟩
 ·rintro ⟨k,h,g⟩
  obtain ⟨j,h1,h2,h3,h4⟩:=OL (ls:=ls) (l:=l) (k:=k) l.length h
  exact ⟨j,h1,by rw[h2,h3,h4];exact g⟩
def BX (hn:Int) (ls:List Lnk) (l:List Snd) (d:Dem):Int :=
 if AS hn ls l≠0 then AS hn ls l else if Dd hn d=false then 1 else if Bz hn ls l≠0 then Bz hn ls l
 else if svR ls l d l.length=true then 4 else if B1 ls l d d.2.1 d.2.2.2.2<d.2.2.1 then 21 else 0
theorem Abc {k:Nat} {n:Nat} (h:k<n) (hn:n≤2000):IntKind.i64.wrap ((k:Int)+1)=((k+1:Nat):Int):=by rw[Ag (by omega) (by omega)];omega
noncomputable def HB:(Int)×(List Lnk)×(List Snd)×(Dem)→List PV:=fun (hn,ls,l,d) => [.agg [I hn,Az ls],AB l,Cr d]
noncomputable def Tr:(Int)×(List Lnk)×(List Snd)×(Dem)→PV:=fun (hn,ls,l,d)=>I (BX hn ls l d)
def Ts:(Int)×(List Lnk)×(List Snd)×(Dem)→Prop:=fun (hn,ls,l,d)=>True
noncomputable def e_serves:Nat×Ent:=(58,.v (Ah HB Tr Ts))
theorem mJ:∀i j,HB i=HB j→i=j:=by
 rintro ⟨hn₁,ls₁,l₁,d₁⟩ ⟨hn₂,ls₂,l₂,d₂⟩ h
 simp only[HB,List.cons.injEq,and_true,PV.lits.injEq,PV.int.injEq,PV.agg.injEq,true_and,AR,AG]at h
 simp [Prod.ext_iff,h] <;> omega
theorem mK (hn:Int) (ls:List Lnk) (l:List Snd) (d:Dem):Ah HB Tr Ts [.agg [I hn,Az ls],AB l,Cr d]=some (I (BX hn ls l d)):=AA mJ (i:=(hn,ls,l,d)) trivial
def Tt:Prop:=∀(hn:Int) (ls:List Lnk) (l:List Snd) (d:Dem) ,VC Try.prog 58 [.agg [I hn,Az ls],AB l,Cr d] (I (BX hn ls l d))
def Tu:Prop:=AM Try.prog e_serves.1 e_serves.2
theorem mL (c:Tt):Tu:=At fun⟨hn,ls,l,d⟩ h=>c hn ls l d
theorem mM:Tt:=by
 intro hn ls l d
 refine A5 AP (l := [e_right,e_demanded,e_fits,e_stock]) ((Ae JX (Ae MQ (Ae lQ (Ae Xq Ao))))) [92] []  Try.func58 rfl (by decide +kernel) (N:=96) rfl (by simp) rfl (by kernel_rfl) fun hs=>?_
 simp only[AI,PV.small,List.length_map,and_true,true_and]at hs
 by_cases h:AS hn ls l=0
 case neg =>
  rw [show BX hn ls l d=AS hn ls l by simp[BX,h]]
  generalize hr:AS hn ls l=r at *
  simp +contextual (maxSteps:=4000000) only[↓bdD,bdP,Nat.reduceLT,Nat.reduceBEq,Ai,Nat.reduceAdd,st0,↓reduceIte,e_right,BP,e_demanded,e_fits,e_stock,Ac,Ab,Try.f58,Aw,AJ,h,hr]
 have ok:=right_zero.1 h
 have hlen:=ok.len
 cases hd:Dd hn d
 ·rw [show BX hn ls l d=1 by simp[BX,h,hd]]
  simp +contextual (maxSteps:=4000000) only[↓bdD,bdP,Nat.reduceLT,Nat.reduceBEq,Ai,Nat.reduceEqDiff,Nat.reduceAdd,st0,↓reduceIte,e_right,BP,e_demanded,CM,e_fits,e_stock,Ac,Ab,Try.f58,Aw,AJ,AX,h,hd]
 have hdb:=Wm hd
 by_cases hf:Bz hn ls l=0
 case neg =>
  rw [show BX hn ls l d=Bz hn ls l by simp[BX,h,hd,hf]]
  generalize hr:Bz hn ls l=r at *
  simp +contextual (maxSteps:=4000000) only[↓bdD,bdP,Nat.reduceLT,Nat.reduceBEq,Ai,Nat.reduceEqDiff,Nat.reduceAdd,st0,↓reduceIte,e_right,BP,e_demanded,CM,e_fits,KK,e_stock,Ac,Ab,Try.f58,Aw,AJ,AX,h,hd,hf,hr]
 have hM:BX hn ls l d=if svP ls l d l.length=true then 4 else if B1 ls l d d.2.1 d.2.2.2.2<d.2.2.1 then 21 else 0:=by simp[BX,h,hd,hf,Adw ok]
 rw [hM]
 clear hM
 generalize hr:(if svP ls l d l.length=true then (4:Int)else if B1 ls l d d.2.1 d.2.2.2.2<d.2.2.1 then 21 else 0)=r
 simp +contextual (maxSteps:=4000000) only[↓bdD,bdP,Nat.reduceLT,Nat.reduceBEq,Nat.reduceEqDiff,Nat.reduceAdd,st0,↓reduceIte,e_right,BP,e_demanded,CM,e_fits,KK,e_stock,Ac,Ab,Try.f58,Aw,AJ,AX,h,hd,hf]
 refine Ax [6,9,10,11,12,14,33,34,35,36,37,38,39,40,41,42,43,44,45,46,47,48,49,50,51,52,53,54,55,56,57,58,59,60,61,62,63,64,65,66,67,68,69,70,71,72,73,74,75,76,77,78,79,80,81,82,83,84] l.length (fun k ρ st'=>ρ 33=I k∧svP ls l d k=false) (.refl _) ?_ ?_
 ·simp +contextual (maxSteps:=4000000) only[↓bdD,bdP,svP]
 ·rintro k ρ ⟨ob,M⟩ hk ⟨h33,hz⟩
  by_cases hlt:k<l.length
  ·have hw1:=Abc hlt hlen
   have e1:=ok.link k hlt
   have hs:svP ls l d (k+1)=decide (B1 ls l d (frM ls l k) (l.getD k dS).2.1<Ea ls l (l.getD k dS).2.1 (frM ls l k) (k+1)):=by simp only[svP,hz,Bool.false_or]
   have hle:=Xu ok (l.getD k dS).2.1 (frM ls l k)
   have htk:List.take (k+1-0) (l.map GX)=(l.take (k+1)).map GX:=List.map_take.symm
   have htl:(l.take (k+1)).length=k+1:=by simp;omega
   have htg:∀i,i<k+1→(l.take (k+1)).getD i dS=l.getD i dS:=fun i hi=>by simp[hi]
   have hk1:((k+1:Nat):Int)≤(l.length:Int):=by omega
   have hfr:frM ls l k=(ls.getD (l.getD k dS).1.toNat dL).1:=rfl
   generalize hf:frM ls l k=f at *
   generalize hx:l.getD k dS=x at *
   have h5:=DG e1.1 e1.2
   have h6:=Int.toNat_of_nonneg e1.1
   generalize x.1.toNat=kk at *
   have nM:¬M=M+1:=by omega
   simp +contextual (maxSteps:=4000000) only[↓bdD,bdP,Nat.reduceLT,Nat.reduceBEq,Nat.reduceAdd,Int.reduceToNat,Store.new,Store.set,↓reduceIte,AH,Br,Fd,ty3,By,Aw,AJ,B6,BU,h33,hlt,hx,h5,←h6,hw1,htk,htl,hk1,←hfr]
   refine Ax [12,14,50,51,52,53,54,55,56,57,58,59,60,61,62,63,64,65,66,67,68,69,70,71,72,73,74] (k+1) (fun i ρ st'=>ρ 50=I i∧ρ 12=I (Ea ls l x.2.1 f i)∧st'.obj M=some (.arr 0 3 [.agg [I kk,I x.2.1,I x.2.2]])∧M<st'.next) (.refl _) ?_ ?_
   ·simp +contextual (maxSteps:=4000000) only[↓bdD,bdP,Nat.reduceBEq,Ea]
   ·rintro i ρ2 ⟨ob2,M2⟩ hi ⟨h50,h12,hob,hMM⟩
    dsimp only at hob hMM
    have q1:¬M=M2:=by omega
    by_cases hilt:i<k+1
    ·have hw2:IntKind.i64.wrap ((i:Int)+1)=((i+1:Nat):Int):=Abc hilt (by omega)
     have hil:i<l.length:=by omega
     have e2:=ok.link i hil
     have b2:=ok.bytes i hil
     have hst:Ea ls l x.2.1 f (i+1)=Ea ls l x.2.1 f i+if (l.getD i dS).2.1=x.2.1∧frM ls l i=f then (l.getD i dS).2.2 else 0:=rfl
     have hl2:=hle i (by omega)
     have hg:=htg i hilt
     have hfi:frM ls l i=(ls.getD (l.getD i dS).1.toNat dL).1:=rfl
     rw [hfi]at hst
     generalize hy:l.getD i dS=y at *
     have h52:=DG e2.1 e2.2
     have h62:=Int.toNat_of_nonneg e2.1
     generalize y.1.toNat=jj at *
     by_cases c1:y.2.1=x.2.1
     ·by_cases c2:(ls.getD jj dL).1=f
      ·rw [if_pos ⟨c1,c2⟩]at hst
       have hw3:IntKind.i64.wrap (Ea ls l x.2.1 f i+y.2.2)=Ea ls l x.2.1 f (i+1):=by rw[hst,Ag (by omega) (by omega)]
       simp +contextual (maxSteps:=4000000) only[↓bdD,bdP,Nat.reduceLT,Nat.reduceBEq,Nat.reduceAdd,Store.new,Store.set,↓reduceIte,AH,Br,Fd,ty3,By,Aw,AJ,B6,BU,h50,h12,hob,q1,hilt,htl,hg,h52,←h62,c1,c2,hw2,hw3]
       omega
      ·rw [if_neg (fun h=>c2 h.2),Int.add_zero]at hst
       rw [hst]
       simp +contextual (maxSteps:=4000000) only[↓bdD,bdP,Nat.reduceLT,Nat.reduceBEq,Nat.reduceAdd,Store.new,Store.set,↓reduceIte,AH,Br,Fd,ty3,By,Aw,AJ,B6,BU,h50,h12,hob,q1,hilt,htl,hg,h52,←h62,c1,c2,hw2]
       omega
     ·rw [if_neg (fun h=>c1 h.1),Int.add_zero]at hst
      rw [hst]
      simp +contextual (maxSteps:=4000000) only[↓bdD,bdP,Nat.reduceLT,Nat.reduceBEq,Nat.reduceAdd,Store.new,Store.set,↓reduceIte,AH,ty3,AJ,BU,h50,h12,hob,q1,hilt,htl,hg,c1,hw2]
      omega
    ·have e:i=k+1:=by omega
     subst e
     by_cases hb:B1 ls l d f x.2.1<Ea ls l x.2.1 f (k+1)
     ·rw [decide_eq_true hb]at hs
      have hend:svP ls l d l.length=true:=by
       rw [Qz]at hs ⊢
       obtain ⟨j,j1,j2⟩:=hs
       exact ⟨j,by omega,j2⟩
      rw [if_pos hend]at hr
      subst hr
      simp +contextual (maxSteps:=4000000) only[↓bdD,bdP,Nat.reduceLT,Nat.reduceBEq,Ai,Nat.reduceEqDiff,Nat.reduceAdd,↓reduceIte,J2,Ac,Ab,ty3,Aw,AJ,AX,BU,h50,h12,hob,ok,hdb,hb]
     ·rw [decide_eq_false hb]at hs
      simp +contextual (maxSteps:=4000000) only[↓bdD,bdP,Nat.reduceLT,Nat.reduceBEq,Nat.reduceEqDiff,Nat.reduceAdd,↓reduceIte,J2,Ac,Ab,ty3,Aw,AJ,AX,BU,h50,h12,hob,ok,hdb,hb,hs,hw1,h33]
      rw [AF (by decide +kernel)];simp +contextual (maxSteps:=4000000) only[↓bdD,bdP,Nat.reduceBEq]
  ·have e:k=l.length:=by omega
   subst e
   rw [hz,if_neg (by simp)]at hr
   by_cases hb:B1 ls l d d.2.1 d.2.2.2.2<d.2.2.1
   ·rw [if_pos hb]at hr
    subst hr
    simp +contextual (maxSteps:=4000000) only[↓bdD,bdP,Nat.reduceLT,Nat.reduceBEq,Ai,Nat.reduceEqDiff,Nat.reduceAdd,↓reduceIte,J2,Ac,Ab,ty3,Aw,AJ,AX,h33,ok,hdb,hb]
   ·rw [if_neg hb]at hr
    subst hr
    simp +contextual (maxSteps:=4000000) only[↓bdD,bdP,Nat.reduceLT,Nat.reduceBEq,Ai,Nat.reduceEqDiff,Nat.reduceAdd,↓reduceIte,J2,Ac,Ab,ty3,Aw,AJ,AX,h33,ok,hdb,hb]
theorem mN:Tu:=mL mM
end Sim
namespace Sim
open Go Go.Proofs
attribute [local congr] Ap Aq Al AC As Ar Av Gq
def atM (ls:List Lnk) (l:List Snd) (d:Dem) (t:Int):Prop:=d.2.2.2.1≤t∧t≤d.2.2.2.2∧d.2.2.1≤B1 ls l d d.2.1 t
instance {ls:List Lnk} {l:List Snd} {d:Dem} {t:Int}:Decidable (atM ls l d t):=inferInstanceAs (Decidable (_∧_))
theorem Tv {hn:Int} {ls:List Lnk} {l:List Snd} {d:Dem} (h:BX hn ls l d=0):OKr hn ls l∧Dd hn d=true∧Bz hn ls l=0∧svR ls l d l.length=false∧d.2.2.1≤B1 ls l d d.2.1 d.2.2.2.2:=by
 unfold BX at h
 split at h
 ·contradiction
 ·rename_i h1
  split at h
  ·cases h
  ·rename_i h2
   split at h
   ·contradiction
   ·rename_i h3
    split at h
    ·cases h
    ·rename_i h4
     split at h
     ·cases h
     ·rename_i h5
      exact ⟨right_zero.1 (Classical.not_not.1 h1),by simpa using h2,Classical.not_not.1 h3,by simpa using h4,by omega⟩
end Sim
namespace Sim
open Go Go.Proofs
structure Serving (hn:Int) (ls:List Lnk) (l:List Snd) (d:Dem):Prop where
 ok : OKr hn ls l
 from_ : 0≤d.1∧d.1<hn
 to_ : 0≤d.2.1∧d.2.1<hn
 dem : DU d
 fits : Bz hn ls l=0
 fed : ∀k,k<l.length→Ea ls l (l.getD k dS).2.1 (frM ls l k) l.length≤B1 ls l d (frM ls l k) (l.getD k dS).2.1
 late : d.2.2.1≤B1 ls l d d.2.1 d.2.2.2.2
theorem serves_iff {hn:Int} {ls:List Lnk} {l:List Snd} {d:Dem}:BX hn ls l d=0↔Serving hn ls l d:=by
 constructor
 ·intro h
  obtain ⟨h1,h2,h3,h4,h5⟩:=Tv h
  simp only[Dd,Bool.and_eq_true,decide_eq_true_eq,hOK]at h2
  refine ⟨h1,h2.1.1,h2.1.2,h2.2,h3,fun k hk=>?_,h5⟩
  apply Classical.byContradiction
  intro hc
  have : svR ls l d l.length=true:=svR_iff.2 ⟨k,hk,by omega⟩
  rw [h4]at this;cases this
 ·intro h
  have hd:Dd hn d=true:=by
   simp only[Dd,Bool.and_eq_true,decide_eq_true_eq,hOK]
   exact ⟨⟨h.from_,h.to_⟩,h.dem⟩
  have hs:svR ls l d l.length=false:=by
   cases hs:svR ls l d l.length with
   | false=>rfl
   | true =>
    obtain ⟨k,hk,g⟩:=svR_iff.1 hs
    have := h.fed k hk
    omega
  unfold BX
  rw [if_neg (fun g=>g (right_zero.2 h.ok)),if_neg (by rw[hd];simp),if_neg (fun g=>g h.fits),if_neg (by rw[hs];simp),if_neg (by have:=h.late;omega)]
theorem ends {hn:Int} {ls:List Lnk} {l:List Snd} (ok:OKr hn ls l) {k:Nat} (hk:k<l.length):(0≤(Cd ls (l.getD k dS)).1∧(Cd ls (l.getD k dS)).1<hn)∧(0≤(Cd ls (l.getD k dS)).2.1∧(Cd ls (l.getD k dS)).2.1<hn)∧(Cd ls (l.getD k dS)).1≠(Cd ls (l.getD k dS)).2.1:=by
 have e1:=ok.link k hk
 have := ok.net.ends (l.getD k dS).1.toNat (by omega)
 exact ⟨⟨this.1,this.2.1⟩,⟨this.2.2.1,this.2.2.2.1⟩,this.2.2.2.2⟩
end Sim
namespace Sim
def Fl (A:List Arc) (u v:Nat) (x y:Int):List Arc:=A ++ [(u,v,x,y),(v,u,0,-y)]
def CN (out:List (List Nat)) (u v n:Nat):List (List Nat):=(out.set u (out.getD u [] ++ [n])).set v (out.getD v [] ++ [n+1])
def gA (p:Nat→Arc):Nat→List Arc
 | 0 => []
 | n+1=>Fl (gA p n) (p n).1 (p n).2.1 (p n).2.2.1 (p n).2.2.2
def gO (p:Nat→Arc) (N:Nat):Nat→List (List Nat)
 | 0=>List.replicate N []
 | n+1=>CN (gO p N n) (p n).1 (p n).2.1 (gA p n).length
section
variable {p:Nat→Arc} {N n:Nat}
theorem Cq:∀ {n},(gA p n).length=2*n
 | 0=>rfl
 | n+1=>by rw[gA,Fl,List.length_append,Cq];simp;omega
theorem I5 {k:Nat} (h:k<2*n):(gA p (n+1)).getD k dA=(gA p n).getD k dA:=by
 rw [gA,Fl,List.getD_eq_getElem?_getD,List.getElem?_append_left (by rw[Cq];exact h),List.getD_eq_getElem?_getD]
theorem H8:∀ {n i:Nat},i<n→(gA p n).getD (2*i) dA=p i
 | 0,i,h=>absurd h (by omega)
 | n+1,i,h=>by
  by_cases e:i=n
  ·subst e
   rw [gA,Fl,List.getD_eq_getElem?_getD,List.getElem?_append_right (by rw[Cq];omega),Cq,Nat.sub_self];rfl
  ·rw [I5 (by omega),H8 (by omega)]
theorem KN:∀ {n i:Nat},i<n→(gA p n).getD (2*i+1) dA=((p i).2.1,(p i).1,0,-(p i).2.2.2)
 | 0,i,h=>absurd h (by omega)
 | n+1,i,h=>by
  by_cases e:i=n
  ·subst e
   rw [gA,Fl,List.getD_eq_getElem?_getD,List.getElem?_append_right (by rw[Cq];omega),Cq,show 2*i+1-2*i=1 by omega];rfl
  ·rw [I5 (by omega),KN (by omega)]
def J3 (p:Nat→Arc) (N n:Nat):Prop:=∀i,i<n→(p i).1<N∧(p i).2.1<N∧(p i).1≠(p i).2.1∧0≤(p i).2.2.1∧0≤(p i).2.2.2∧(p i).2.2.2≤1000000
theorem Dv:∀ {n},(gO p N n).length=N
 | 0=>by rw[gO,List.length_replicate]
 | n+1=>by rw[gO,CN,List.length_set,List.length_set,Dv]
theorem QA {out:List (List Nat)} {u v m w:Nat} (hu:u<out.length) (hv:v<out.length) (huv:u≠v):(CN out u v m).getD w []=if w=v then out.getD v [] ++ [m+1]else if w=u then out.getD u [] ++ [m]else out.getD w []:=by
 unfold CN
 by_cases c1:w=v
 ·subst c1
  rw [if_pos rfl,List.getD_eq_getElem?_getD,List.getElem?_set_self (by rw[List.length_set];exact hv)];rfl
 ·rw [if_neg c1]
  by_cases c2:w=u
  ·subst c2
   rw [if_pos rfl,List.getD_eq_getElem?_getD,List.getElem?_set_ne (fun e=>c1 e.symm),List.getElem?_set_self hu];rfl
  ·rw [if_neg c2,List.getD_eq_getElem?_getD,List.getElem?_set_ne (fun e=>c1 e.symm),List.getElem?_set_ne (fun e=>c2 e.symm),List.getD_eq_getElem?_getD]
theorem QB:∀ {n},J3 p N n→∀ {u:Nat},u<N→∀ {k},k∈(gO p N n).getD u []↔k<2*n∧aF (gA p n) k=u
 | 0,_,u,hu,k=>by simp[gO,hu]
 | n + 1,h,u,hu,k=>by
  have ih:=QB (n:=n) (fun i hi=>h i (by omega)) hu (k:=k)
  obtain ⟨h1,h2,h3,_⟩:=h n (by omega)
  rw [gO,QA (by rw[Dv];exact h1) (by rw[Dv];exact h2) h3]
  have e0:k<2*n→aF (gA p (n+1)) k=aF (gA p n) k:=fun hk=>by unfold aF;rw[I5 hk]
  have e1:aF (gA p (n+1)) (2*n)=(p n).1:=by unfold aF;rw[H8 (by omega)]
  have e2:aF (gA p (n+1)) (2*n+1)=(p n).2.1:=by unfold aF;rw[KN (by omega)]
  have key:k<2*(n+1)∧aF (gA p (n+1)) k=u↔(k<2*n∧aF (gA p n) k=u)∨(k=2*n∧(p n).1=u)∨(k=2*n+1∧(p n).2.1=u):=by
   constructor
   ·rintro ⟨a1,a2⟩
    by_cases c:k<2*n
    ·rw [e0 c]at a2;exact .inl ⟨c,a2⟩
    ·by_cases c2:k=2*n
     ·subst c2;rw[e1]at a2;exact .inr (.inl ⟨rfl,a2⟩)
     ·have : k=2*n+1:=by omega
      subst this;rw[e2]at a2;exact .inr (.inr ⟨rfl,a2⟩)
   ·rintro (⟨a1,a2⟩ | ⟨a1,a2⟩ | ⟨a1,a2⟩)
    ·exact ⟨by omega,by rw[e0 a1];exact a2⟩
    ·subst a1;exact⟨by omega,by rw[e1];exact a2⟩
    ·subst a1;exact⟨by omega,by rw[e2];exact a2⟩
  rw [key,Cq]
  by_cases c1:u=(p n).2.1
  ·rw [if_pos c1,List.mem_append,List.mem_singleton,←c1,ih]
   constructor
   ·rintro (a | a)
    ·exact .inl a
    ·exact .inr (.inr ⟨a,rfl⟩)
   ·rintro (a | a | a)
    ·exact .inl a
    ·exact absurd (a.2.trans c1) h3
    ·exact .inr a.1
  ·rw [if_neg c1]
   by_cases c2:u=(p n).1
   ·rw [if_pos c2,List.mem_append,List.mem_singleton,←c2,ih]
    constructor
    ·rintro (a | a)
     ·exact .inl a
     ·exact .inr (.inl ⟨a,rfl⟩)
    ·rintro (a | a | a)
     ·exact .inl a
     ·exact .inr a.1
     ·exact absurd a.2.symm c1
   ·rw [if_neg c2,ih]
    constructor
    ·exact .inl
    ·rintro (a | a | a)
     ·exact a
     ·exact absurd a.2.symm c2
     ·exact absurd a.2.symm c1
theorem MR:∀ {n},J3 p N n→∀u,((gO p N n).getD u []).length≤n
 | 0,_,u=>by
  rw [gO,List.getD_eq_getElem?_getD,List.getElem?_replicate]
  split <;> simp
 | n+1,h,u=>by
  have ih:=MR (n:=n) fun i hi=>h i (by omega)
  obtain ⟨h1,h2,h3,_⟩:=h n (by omega)
  rw [gO,QA (by rw[Dv];exact h1) (by rw[Dv];exact h2) h3]
  have i1:=ih (p n).1
  have i2:=ih (p n).2.1
  have i3:=ih u
  split
  ·rw [List.length_append,List.length_singleton];omega
  ·split
   ·rw [List.length_append,List.length_singleton];omega
   ·omega
theorem Xv {out:List (List Nat)} {done:List Bool} {b:Nat} (h:∀u,(out.getD u []).length≤b):∀n,Ql out done n≤n*b
 | 0=>by simp[Ql]
 | n+1=>by
  have ih:=Xv (done:=done) h n
  have := h n
  rw [Ql,Nat.succ_mul]
  split <;> omega
theorem Adx (h:J3 p N n) {s:Nat}:EB (gO p N n) (ini N s)≤N*n+1:=by
 have := Xv (done:=(ini N s).done) (MR h) N
 unfold EB
 rw [Dv]
 have e:(ini N s).q.length=1:=rfl
 omega
theorem bG {i:Nat} (h:i<n):aF (gA p n) (2*i)=(p i).1:=by unfold aF;rw[H8 h]
theorem bH {i:Nat} (h:i<n):aT (gA p n) (2*i)=(p i).2.1:=by unfold aT;rw[H8 h]
theorem mO {i:Nat} (h:i<n):aL (gA p n) (2*i)=(p i).2.2.1:=by unfold aL;rw[H8 h]
theorem xT {i:Nat} (h:i<n):aP (gA p n) (2*i)=(p i).2.2.2:=by unfold aP;rw[H8 h]
theorem mP {i:Nat} (h:i<n):aF (gA p n) (2*i+1)=(p i).2.1:=by unfold aF;rw[KN h]
theorem mQ {i:Nat} (h:i<n):aT (gA p n) (2*i+1)=(p i).1:=by unfold aT;rw[KN h]
theorem J4 {i:Nat} (h:i<n):aL (gA p n) (2*i+1)=0:=by unfold aL;rw[KN h]
theorem Abd {i:Nat} (h:i<n):aP (gA p n) (2*i+1) = -(p i).2.2.2:=by unfold aP;rw[KN h]
theorem B5 {k:Nat} (h:k<2*n):∃i,i<n∧(k=2*i∨k=2*i+1):=⟨k / 2,by omega,by omega⟩
theorem Aht (h:J3 p N n):WPr (gA p n) n:=by
 refine ⟨Cq,fun i hi=>?_,fun i hi=>?_,fun i hi=>?_,fun j hj=>?_⟩
 ·rw [mP hi,bH hi]
 ·rw [mQ hi,bG hi]
 ·rw [Abd hi,xT hi]
 ·obtain ⟨i,hi,rfl | rfl⟩:=B5 hj
  ·rw [mO hi];exact (h i hi).2.2.2.1
  ·rw [J4 hi];exact Int.le_refl _
theorem mR (h:J3 p N n) {s t:Nat} (hs:s<N) (ht:t<N) (hst:s≠t):SI (gA p n) (gO p N n) (List.replicate N 0) N n s t 0:=by
 have ar:∀k,k<(gA p n).length→aF (gA p n) k<N∧aT (gA p n) k<N:=fun k hk=>by
  rw [Cq]at hk
  obtain ⟨i,hi,rfl | rfl⟩:=B5 hk
  ·rw [bG hi,bH hi];exact⟨(h i hi).1,(h i hi).2.1⟩
  ·rw [mP hi,mQ hi];exact⟨(h i hi).2.1,(h i hi).1⟩
 have l0:∀v,(List.replicate N (0:Int)).getD v 0=0:=fun v=>by
  rw [List.getD_eq_getElem?_getD,List.getElem?_replicate]
  split <;> rfl
 refine ⟨Aht h,ar,fun u hu k hk=>?_,fun k hk=>?_,Dv,by simp,hs,ht,hst,fun k hk=>?_,l0 s,fun v _=>by rw[l0];omega,fun v hv=>?_,fun _=>0,fun k hk hl=>?_,fun v _=>(l0 v).symm⟩
 ·rw [Cq];exact (QB h hu).1 hk
 ·have :=(ar k hk).1
  rw [Cq]at hk
  exact (QB h this).2 ⟨hk,rfl⟩
 ·rw [Cq]at hk
  obtain ⟨i,hi,rfl | rfl⟩:=B5 hk
  ·rw [xT hi];have:=h i hi;omega
  ·rw [Abd hi];have:=h i hi;omega
 ·unfold FN.net
  rw [A3]
  ·split <;> split <;> rfl
  ·intro i hi
   have hi':i<n:=by
    unfold fnA at hi;dsimp only at hi;rw[Cq]at hi;omega
   have : flA (gA p n) i=0:=J4 hi'
   rw [this]
   split <;> split <;> rfl
 ·rw [Cq]at hk
  obtain ⟨i,hi,rfl | rfl⟩:=B5 hk
  ·rw [xT hi];have:=h i hi;dsimp only;omega
  ·rw [J4 hi]at hl;omega
end
def fnP (p:Nat→Arc) (N n s t:Nat):FN:=⟨N,n,s,t,fun i=>(p i).1,fun i=>(p i).2.1,fun i=>(p i).2.2.1,fun i=>(p i).2.2.2⟩
theorem QC {p:Nat→Arc} {N n s t:Nat} (h:J3 p N n) (hs:s<N) (ht:t<N):(fnP p N n s t).WF:=⟨hs,ht,fun i hi=>⟨(h i hi).1,(h i hi).2.1⟩⟩
theorem Xw {p:Nat→Arc} {N n s t:Nat} {f:Nat→Int} {v:Nat}:(fnA (gA p n) N s t).net f v=(fnP p N n s t).net f v:=by
 unfold FN.net
 have e:(fnA (gA p n) N s t).m=n:=by unfold fnA;dsimp only;rw[Cq];omega
 rw [e]
 refine Af fun i hi=>?_
 show (if aF (gA p n) (2*i)=v then f i else 0)-(if aT (gA p n) (2*i)=v then f i else 0)=_
 rw [bG hi,bH hi];rfl
theorem fnA_flow {p:Nat→Arc} {N n s t:Nat} {f:Nat→Int} {b:Int}:(fnA (gA p n) N s t).Flow f b↔(fnP p N n s t).Flow f b:=by
 have e:(fnA (gA p n) N s t).m=n:=by unfold fnA;dsimp only;rw[Cq];omega
 have hc:∀i,i<n→(fnA (gA p n) N s t).cap i=(fnP p N n s t).cap i:=fun i hi=>by
  show aL (gA p n) (2*i)+aL (gA p n) (2*i+1)=_
  rw [mO hi,J4 hi,Int.add_zero];rfl
 constructor
 ·rintro ⟨h1,h2,h3⟩
  rw [e]at h1 h2
  exact ⟨h1,fun i hi=>by rw[←hc i hi];exact h2 i hi,fun v hv=>by rw[←Xw];exact h3 v hv⟩
 ·rintro ⟨h1,h2,h3⟩
  exact ⟨by rw[e];exact h1,fun i hi=>by rw[e]at hi;rw[hc i hi];exact h2 i hi,fun v hv=>by rw[Xw];exact h3 v hv⟩
theorem fnA_pot {p:Nat→Arc} {N n s t:Nat} {f φ:Nat→Int}:(fnA (gA p n) N s t).Pot f φ↔(fnP p N n s t).Pot f φ:=by
 have e:(fnA (gA p n) N s t).m=n:=by unfold fnA;dsimp only;rw[Cq];omega
 have key:∀i,i<n→(fnA (gA p n) N s t).cap i=(fnP p N n s t).cap i∧(fnA (gA p n) N s t).pr i=(fnP p N n s t).pr i∧(fnA (gA p n) N s t).fr i=(fnP p N n s t).fr i∧(fnA (gA p n) N s t).to i=(fnP p N n s t).to i:=fun i hi=>by
  refine ⟨?_,xT hi,bG hi,bH hi⟩
  show aL (gA p n) (2*i)+aL (gA p n) (2*i+1)=_
  rw [mO hi,J4 hi,Int.add_zero];rfl
 unfold FN.Pot
 rw [e]
 show _↔∀i,i<n→_
 constructor
 ·intro h i hi
  obtain ⟨k1,k2,k3,k4⟩:=key i hi
  have := h i hi
  rwa [k1,k2,k3,k4]at this
 ·intro h i hi
  obtain ⟨k1,k2,k3,k4⟩:=key i hi
  rw [k1,k2,k3,k4]
  exact h i hi
theorem Wn {p:Nat→Arc} {N n s t:Nat} (h:J3 p N n) (hs:s<N) (ht:t<N) (hst:s≠t) {bytes:Int} (hb:0≤bytes) :
  (fnP p N n s t).Flow (flA (C8 (gA p n) (gO p N n) (List.replicate N 0) N s t bytes).1) (C8 (gA p n) (gO p N n) (List.replicate N 0) N s t bytes).2 ∧
  (∃ φ,(fnP p N n s t).Pot (flA (C8 (gA p n) (gO p N n) (List.replicate N 0) N s t bytes).1) φ) ∧
  0 ≤ (C8 (gA p n) (gO p N n) (List.replicate N 0) N s t bytes).2∧(C8 (gA p n) (gO p N n) (List.replicate N 0) N s t bytes).2≤bytes ∧
  ((C8 (gA p n) (gO p N n) (List.replicate N 0) N s t bytes).2<bytes→∀f b,(fnP p N n s t).Flow f b→b≤(C8 (gA p n) (gO p N n) (List.replicate N 0) N s t bytes).2) ∧
  (C8 (gA p n) (gO p N n) (List.replicate N 0) N s t bytes).1.length=2*n:=by
 have S:=mR h hs ht hst
 have R:=Qr (bytes:=bytes) S
 obtain ⟨lv',S',h1,h2,h3,h4⟩:=WZ R S hb
 obtain ⟨f1,f2,φ,f3⟩:=Qq S'
 rw [h4]at f2 f3
 exact ⟨fnA_flow.1 f2,⟨φ,fnA_pot.1 f3⟩,h2,h1,fun hlt f b hf=>Ac9 S' (h3 hlt) (f:=f) (by rw[h4];exact fnA_flow.2 hf),S'.wp.len⟩
end Sim
