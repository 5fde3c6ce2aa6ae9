/- What functions of this seat compute, by values: contracts (lemmas of the statement's proof, under the conditions that each names). -/
import Derived.Test.YtppljhpecoeakaaQXC
set_option maxRecDepth 10000
set_option maxHeartbeats 4000000
set_option linter.unusedVariables false
set_option linter.unusedSimpArgs false
namespace Sim
open Go Go.Proofs
attribute [local congr] An Ao Al AC Aq Ap Av
theorem yA {hn:Int} {d:Dem} {y:List (List Int)} (h:shA hn d y) {t:Nat} (ht:t<y.length):((y.getD t []).length:Int)=hn :=
 h.2 _ (by rw[List.getD_eq_getElem?_getD,List.getElem?_eq_getElem ht];exact List.getElem_mem _)
noncomputable def HJ:(Int)×(List Lnk)×(List Snd)×(Dem)×(List (List Int))→List PV:=fun (hn,ls,us,d,y) => [.agg [I hn,Az ls,AB us,I d.1,I d.2.1,I d.2.2.1,I d.2.2.2.1,I d.2.2.2.2],Ff y]
noncomputable def TC:(Int)×(List Lnk)×(List Snd)×(Dem)×(List (List Int))→PV:=fun (hn,ls,us,d,y)=>.tuple [I (J7 hn ls us d y),I (GR hn ls us d y)]
def TD:(Int)×(List Lnk)×(List Snd)×(Dem)×(List (List Int))→Prop:=fun (hn,ls,us,d,y)=>True
noncomputable def e_pbound:Nat×Ent:=(13,.v (Ah HJ TC TD))
theorem nX:∀i j,HJ i=HJ j→i=j:=by
 rintro ⟨hn₁,ls₁,us₁,d₁,y₁⟩ ⟨hn₂,ls₂,us₂,d₂,y₂⟩ h
 simp only[HJ,List.cons.injEq,and_true,PV.lits.injEq,PV.int.injEq,PV.agg.injEq,true_and,AU,AG,J6]at h
 simp [Prod.ext_iff,h] <;> omega
theorem Ka (hn:Int) (ls:List Lnk) (us:List Snd) (d:Dem) (y:List (List Int)):Ah HJ TC TD [.agg [I hn,Az ls,AB us,I d.1,I d.2.1,I d.2.2.1,I d.2.2.2.1,I d.2.2.2.2],Ff y]=some (.tuple [I (J7 hn ls us d y),I (GR hn ls us d y)]):=Ay nX (i:=(hn,ls,us,d,y)) trivial
def TE:Prop:=∀(hn:Int) (ls:List Lnk) (us:List Snd) (d:Dem) (y:List (List Int)) ,VC Try.prog 13 [.agg [I hn,Az ls,AB us,I d.1,I d.2.1,I d.2.2.1,I d.2.2.2.1,I d.2.2.2.2],Ff y] (.tuple [I (J7 hn ls us d y),I (GR hn ls us d y)])
def TF:Prop:=AN Try.prog e_pbound.1 e_pbound.2
theorem nY (c:TE):TF:=At fun⟨hn,ls,us,d,y⟩ h=>c hn ls us d y
theorem nZ:TE:=by
 intro hn ls us d y
 refine Vv AR (l := [e_pcheck,e_cntR,e_mnR,e_mxR,e_runs]) ((Ae HG (Ae Adv (Ae Ag2 (Ae Ag6 (Ae QL As)))))) [] [] 0 1 Try.func13 rfl (by decide +kernel) (N:=144) rfl (by simp) rfl (by kernel_rfl) fun hs=>?_
 simp only[AI,PV.small,List.length_map,and_true,true_and]at hs
 generalize hR1:J7 hn ls us d y=R1
 generalize hR2:GR hn ls us d y=R2
 unfold J7 at hR1
 rw [hR2]at hR1
 unfold GR at hR2
 by_cases h1:CN hn ls us d=0
 case neg =>
  rw [if_pos h1]at hR2
  have e1:R1=0:=by rw[←hR1,if_pos (by rw[←hR2];exact h1)]
  have h2:¬R2=0:=by rw[←hR2];exact h1
  simp +contextual (maxSteps:=4000000) only[↓bdD,bdP,Nat.reduceLT,Nat.reduceBEq,Ag,Nat.reduceAdd,↓reduceIte,e_pcheck,BJ,e_cntR,e_mnR,e_mxR,e_runs,Ac,Ab,Try.f13,Bl,h2,hR2,e1]
 rw [if_neg (fun g=>g h1)]at hR2
 obtain ⟨hfk,hb4⟩:=pck_zero.1 h1
 obtain ⟨hf,hdm,hD,hdu⟩:=Dg hfk
 obtain ⟨⟨a0,a1⟩,⟨c0,c1⟩,hr⟩:=Cw hdm
 obtain ⟨ok,_⟩:=Cm hf
 have hlen:=ok.net.len
 obtain ⟨r0,r1,r2,r3,r4⟩:=hr
 have w1:IntKind.i64.wrap (d.2.2.2.2-d.2.2.2.1)=(Ar d:Int):=by rw[Aj (by omega) (by omega)];omega
 have w2:IntKind.i64.wrap ((Ar d:Int)+1)=((Ar d+1:Nat):Int):=by rw[Aj (by omega) (by omega)];omega
 unfold shE at hR2
 by_cases hA:shA hn d y
 case neg =>
  rw [if_pos hA]at hR2
  subst hR2
  have e1:R1=0:=by rw[←hR1,if_pos (by decide)]
  by_cases hA1:(y.length:Int)=((Ar d+1:Nat):Int)
  ·have hA2:0≤Im hn y:=fnd_iff.2 fun g=>hA ⟨by rw[hA1];omega,g⟩
   simp +contextual (maxSteps:=4000000) only[↓bdD,bdP,Nat.reduceLT,Nat.reduceBEq,Ag,Nat.reduceEqDiff,Nat.reduceAdd,Nat.reduceLeDiff,Store.new,Store.set,↓reduceIte,e_pcheck,BJ,e_cntR,nR,e_mnR,e_mxR,e_runs,Ac,Ab,Dn,Try.f13,ty3,AP,Bl,By,uW,h1,w1,w2,hA1,hA2,e1]
  ·simp +contextual (maxSteps:=4000000) only[↓bdD,bdP,Nat.reduceLT,Nat.reduceBEq,Ag,Nat.reduceAdd,Nat.reduceLeDiff,Store.new,Store.set,↓reduceIte,e_pcheck,BJ,e_cntR,e_mnR,e_mxR,e_runs,Ac,Ab,Try.f13,ty3,AP,Bl,By,h1,w1,w2,hA1,e1]
 have hA1:(y.length:Int)=((Ar d+1:Nat):Int):=by rw[hA.1];omega
 have hA2:¬0≤Im hn y:=fun g=>fnd_iff.1 g hA.2
 rw [if_neg (fun g=>g hA)]at hR2
 have hyl:y.length=Ar d+1:=by omega
 have hsm:=fun t=>bF (k:=t) hs.2.2
 have hrow:=fun {t:Nat} (ht:t<y.length)=>yA hA ht
 have htn:(hn.toNat:Int)=hn:=by omega
 simp +contextual (maxSteps:=4000000) only[↓bdD,bdP,Nat.reduceLT,Nat.reduceBEq,Nat.reduceEqDiff,Nat.reduceAdd,Nat.reduceLeDiff,Store.new,Store.set,↓reduceIte,e_pcheck,BJ,e_cntR,nR,e_mnR,e_mxR,e_runs,Ac,Ab,Dn,Try.f13,ty3,AP,Bl,By,uW,h1,w1,w2,hA1,hA2]
 refine AA [4,5,9,39,40,41,42,43,44,45,46,47,48,49,50,51] y.length (fun k ρ st'=>ρ 39=I k∧(∀t,t<k→∀j,j<hn.toNat→0≤pt y t j∧pt y t j≤536870912)∧(st'.obj 0=some (.arr 0 5 [.agg [I d.1,I d.2.1,I d.2.2.1,I d.2.2.2.1,I d.2.2.2.2]])∧st'.next=1∧WF st')) (.refl _) ?_ ?_
 ·simp +contextual (maxSteps:=4000000) only[↓bdD,bdP]
  refine ⟨fun t ht=>absurd ht (by omega),fun i o hi=>?_⟩
  simp only[Aa]at hi
  dsimp only
  by_cases e:i=0
  ·omega
  ·simp [e]at hi
 rintro k ρ ⟨O,M⟩ hk ⟨h39,hI,o0,hM,hwf⟩
 dsimp only at o0 hM
 subst hM
 by_cases hlt:k<y.length
 ·have hwk:IntKind.i64.wrap ((k:Int)+1)=((k+1:Nat):Int):=by rw[Aj (by omega) (by omega)];omega
  have hki:(k:Int)<((Ar d+1:Nat):Int):=by omega
  have hl:=hrow hlt
  have hpt:∀j,(y.getD k []).getD j 0=pt y k j:=fun j=>rfl
  generalize hyk:y.getD k []=l at *
  have hne:l ≠ []:=fun e=>by rw[e]at hl;simp at hl;omega
  have hln:l.length=hn.toNat:=by omega
  have hmn:=nV (l:=l) (b:=0) (Nat.le_refl _) (by omega)
  have hmx:=nW (l:=l) (b:=536870912) (Nat.le_refl _) (by omega)
  by_cases m1:mnT l l.length<0
  ·have hB:¬shB hn y:=fun g=>by
    have := hmn.2 fun j hj=>by rw[hpt];exact (g k hlt j (by omega)).1
    omega
   rw [if_pos hB]at hR2
   subst hR2
   have e1:R1=0:=by rw[←hR1,if_pos (by decide)]
   simp +contextual (maxSteps:=4000000) only[↓bdD,bdP,Nat.reduceLT,Nat.reduceBEq,Ag,Nat.reduceEqDiff,Nat.reduceAdd,↓reduceIte,nU,C7,By,AX,h39,hlt,hki,hA1,hyk,hne,m1,e1]
  ·by_cases m2:536870912<mxT l l.length
   ·have hB:¬shB hn y:=fun g=>by
     have := hmx.2 fun j hj=>by rw[hpt];exact (g k hlt j (by omega)).2
     omega
    rw [if_pos hB]at hR2
    subst hR2
    have e1:R1=0:=by rw[←hR1,if_pos (by decide)]
    simp +contextual (maxSteps:=4000000) only[↓bdD,bdP,Nat.reduceLT,Nat.reduceBEq,Ag,Nat.reduceEqDiff,Nat.reduceAdd,↓reduceIte,nU,Aad,C7,By,AX,h39,hlt,hki,hA1,hyk,hne,m1,m2,e1]
   ·simp +contextual (maxSteps:=4000000) only[↓bdD,bdP,Nat.reduceLT,Nat.reduceBEq,Nat.reduceEqDiff,Nat.reduceAdd,↓reduceIte,nU,Aad,C7,By,AX,h39,hlt,hki,hwk,hA1,hyk,hne,m1,m2]
    refine ⟨fun t ht j hj=>?_,o0,hwf⟩
    by_cases e:t=k
    ·subst e
     have h1:=hmn.1 (by omega) j (by omega)
     have h2:=hmx.1 (by omega) j (by omega)
     rw [hpt]at h1 h2
     exact ⟨h1,h2⟩
    ·exact hI t (by omega) j hj
 ·have e:k=y.length:=by omega
  subst e
  have hB:shB hn y:=hI
  rw [if_neg (fun g=>g hB)]at hR2
  simp +contextual (maxSteps:=4000000) only[↓bdD,bdP,Nat.reduceLT,Nat.reduceBEq,↓reduceIte,h39,hA1]
  refine AA [4,5,10,11,12,52,53,54,55,56,57,58,59,60,61,62,63,64,65,66,67,68,69,70,71,72,73,74,75,76,77,78] (y.length-1) (fun t ρ st'=>ρ 10=I ((t+1:Nat):Int)∧(∀s,s<t→∀j,j<hn.toNat→pt y (s+1) j≤pt y s j)∧(st'.obj 0=some (.arr 0 5 [.agg [I d.1,I d.2.1,I d.2.2.1,I d.2.2.2.1,I d.2.2.2.2]])∧st'.next=1∧WF st')) (.refl _) ?_ ?_
  ·simp +contextual (maxSteps:=4000000) only[↓bdD,bdP]
   exact ⟨fun t ht=>absurd ht (by omega),o0,hwf⟩
  rintro t ρ2 ⟨O2,M2⟩ ht ⟨h10,hI2,o02,hM2,hwf2⟩
  dsimp only at o02 hM2
  subst hM2
  by_cases hltt:t<y.length-1
  ·have ht1:t+1<y.length:=by omega
   have ht0:t<y.length:=by omega
   have ht1i:((t+1:Nat):Int)<((Ar d+1:Nat):Int):=by omega
   have ht0i:(t:Int)<((Ar d+1:Nat):Int):=by omega
   have wt1:IntKind.i64.wrap (((t+1:Nat):Int)+1)=((t+1+1:Nat):Int):=by rw[Aj (by omega) (by omega)];omega
   have wt0:IntKind.i64.wrap (((t+1:Nat):Int)-1)=(t:Int):=by rw[Aj (by omega) (by omega)];omega
   have hl1:=hrow ht1
   have hl0:=hrow ht0
   have hs0:=hsm t
   have hp1:∀j,(y.getD (t+1) []).getD j 0=pt y (t+1) j:=fun j=>rfl
   have hp0:∀j,(y.getD t []).getD j 0=pt y t j:=fun j=>rfl
   generalize hy1:y.getD (t+1) []=l1 at *
   generalize hy0:y.getD t []=l0 at *
   simp +contextual (maxSteps:=4000000) only[↓bdD,bdP,Nat.reduceLT,Nat.reduceBEq,Nat.reduceAdd,↓reduceIte,C7,By,AX,h10,hA1,ht1,ht1i,hy1]
   refine AA [4,5,11,12,63,64,65,66,67,68,69,70,71,72,73,74,75,76,77,78] l1.length (fun j ρ st'=>ρ 63=I j∧(∀i,i<j→pt y (t+1) i≤pt y t i)∧(st'.obj 0=some (.arr 0 5 [.agg [I d.1,I d.2.1,I d.2.2.1,I d.2.2.2.1,I d.2.2.2.2]])∧st'.next=1∧WF st')) (.refl _) ?_ ?_
   ·simp +contextual (maxSteps:=4000000) only[↓bdD,bdP]
    exact ⟨fun t ht=>absurd ht (by omega),o02,hwf2⟩
   rintro j ρ3 ⟨O3,M3⟩ hj ⟨h63,hI3,o03,hM3,hwf3⟩
   dsimp only at o03 hM3
   subst hM3
   by_cases hltj:j<l1.length
   ·have hltj0:j<l0.length:=by omega
    have wj:IntKind.i64.wrap ((j:Int)+1)=((j+1:Nat):Int):=by rw[Aj (by omega) (by omega)];omega
    by_cases c:pt y t j<pt y (t+1) j
    ·have hC:¬shC hn y:=fun g=>by have:=g t hltt j (by omega);omega
     rw [if_pos hC]at hR2
     subst hR2
     have e1:R1=0:=by rw[←hR1,if_pos (by decide)]
     simp +contextual (maxSteps:=4000000) only[↓bdD,bdP,Nat.reduceLT,Nat.reduceBEq,Ag,Nat.reduceAdd,↓reduceIte,C7,ty3,By,AX,h63,h10,hltj,hltj0,ht0,ht0i,hA1,wt0,hy0,hp1,hp0,c,e1]
    ·simp +contextual (maxSteps:=4000000) only[↓bdD,bdP,Nat.reduceLT,Nat.reduceBEq,Nat.reduceAdd,↓reduceIte,C7,ty3,By,AX,h63,h10,hltj,hltj0,ht0,ht0i,hA1,wt0,wj,hy0,hp1,hp0,c]
     refine ⟨fun i hi=>?_,o03,hwf3⟩
     by_cases e:i=j
     ·subst e;omega
     ·exact hI3 i (by omega)
   ·have e:j=l1.length:=by omega
    subst e
    simp +contextual (maxSteps:=4000000) only[↓bdD,bdP,Nat.reduceLT,Nat.reduceBEq,↓reduceIte,h63,h10,wt1]
    refine ⟨hltt,?_,fun s hs j hj=>?_,o03,hwf3⟩
    ·rw [AH (by decide +kernel)]
     simp +contextual (maxSteps:=4000000) only[↓bdD,bdP,Nat.reduceBEq]
    ·by_cases e:s=t
     ·subst e;exact hI3 j (by omega)
     ·exact hI2 s (by omega) j hj
  ·have e:t=y.length-1:=by omega
   subst e
   have hC:shC hn y:=hI2
   rw [if_neg (fun g=>g hC)]at hR2
   subst hR2
   rw [if_neg (fun g=>g rfl)]at hR1
   have e2:y.length-1=Ar d:=by omega
   have e3:y.length-1+1=Ar d+1:=by omega
   rw [e3]at h10
   have hDl:Ar d<y.length:=by omega
   have h0l:0<y.length:=by omega
   have hDi:(Ar d:Int)<((Ar d+1:Nat):Int):=by omega
   have h0i:(0:Int)<((Ar d+1:Nat):Int):=by omega
   obtain ⟨fa,hfa⟩:∃u,d.1.toNat=u:=⟨_,rfl⟩
   obtain ⟨fc,hfc⟩:∃u,d.2.1.toNat=u:=⟨_,rfl⟩
   have hf1:d.1=(fa:Int):=by omega
   have hf2:d.2.1=(fc:Int):=by omega
   have hlD:=hrow hDl
   have hl0:=hrow h0l
   have hpD:∀j,(y.getD (Ar d) []).getD j 0=pt y (Ar d) j:=fun j=>rfl
   have hp0:∀j,(y.getD 0 []).getD j 0=pt y 0 j:=fun j=>rfl
   have bD:=hB (Ar d) hDl fc (by omega)
   have b0:=hB 0 h0l fa (by omega)
   have hfa1:fa<(y.getD 0 []).length:=by omega
   have hfc1:fc<(y.getD (Ar d) []).length:=by omega
   have hfai:d.1<((y.getD 0 []).length:Int):=by omega
   have hfci:d.2.1<((y.getD (Ar d) []).length:Int):=by omega
   have w3:IntKind.i64.wrap (pt y (Ar d) fc-pt y 0 fa)=pt y (Ar d) fc-pt y 0 fa:=Aj (by omega) (by omega)
   have hbI0:Jb ls us d y 0=d.2.2.1*(pt y (Ar d) fc-pt y 0 fa):=by unfold Jb;rw[hfa,hfc,Ai,Int.sub_zero]
   have hb1:=M9 hf hB ⟨by omega,hb4⟩ r2 hD hyl ⟨a0,a1⟩ ⟨c0,c1⟩ (n:=0) (Nat.zero_le _)
   rw [hbI0]at hb1
   have w4:IntKind.i64.wrap (d.2.2.1*(pt y (Ar d) fc-pt y 0 fa))=Jb ls us d y 0:=by rw[hbI0,Aj (by omega) (by omega)]
   obtain ⟨O4,hO4⟩:∃O4:Nat→Option IObj,Aa O2 1 (some (.arr 0 1 [I (Jb ls us d y 0)]))=O4:=⟨_,rfl⟩
   have hw4:WF ⟨O4,2⟩:=fun i o hi=>by
    dsimp only at hi ⊢
    rw [←hO4]at hi
    simp only[Aa]at hi
    split at hi
    ·omega
    ·have := hwf2 i o hi
     dsimp only at this
     omega
   have sp:=M1 ⟨hn,ls,us,d⟩ (st:=⟨O4,2⟩) hf
   simp only[CM]at sp
   simp +contextual (maxSteps:=4000000) only[↓bdD,bdP,Nat.reduceLT,Nat.reduceBEq,Nat.reduceEqDiff,Nat.reduceAdd,Nat.reduceLeDiff,reduceCtorEq,Int.reduceToNat,Store.new,Store.set,↓reduceIte,Ac,Ab,C7,ty3,AP,Bl,By,AX,h10,hA1,w1,w3,w4,hfa,hfc,a0,c0,hfai,hfci,hDl,h0l,hDi,h0i,hfa1,hfc1,hpD,hp0,o02,A4,hO4,sp]
   have b0:rnO O4 2 us 0=some (.arr 0 5 [.agg [I d.1,I d.2.1,I d.2.2.1,I d.2.2.2.1,I d.2.2.2.2]]):=by simp[rnO,←hO4,Aa,o02]
   have b1:rnO O4 2 us 1=some (.arr 0 1 [I (Jb ls us d y 0)]):=by simp[rnO,←hO4,Aa]
   have b2:rnO O4 2 us 2=some (.map 0 (.ints 2) (us.map tkE)):=by simp[rnO]
   have b3:rnO O4 2 us 3=some (.arr 0 1 [.mref 2 0]):=by simp[rnO]
   generalize rnO O4 2 us=O5 at *
   have hyr:=QM (hn:=hn) (M:=2) (D:=Ar d) hf hdu r2 r4
   refine ET (ys:=Ja ls us d.2.2.2.1 (Ar d)) (f:=53) (first := []) (captured := [frP hn ls us d,.ptr 3 0 0 0]) rfl rfl (AY rfl) ?_ hyr rfl ?_ (by kernel_rfl) (by kernel_rfl)
    (fun i st'=>(st'.obj 0=some (.arr 0 5 [.agg [I d.1,I d.2.1,I d.2.2.1,I d.2.2.2.1,I d.2.2.2.2]])∧0<st'.next)∧(st'.obj 1=some (.arr 0 1 [I (Jb ls us d y i)])∧1<st'.next)∧(st'.obj 2=some (.map 0 (.ints 2) (us.map tkE))∧2<st'.next)∧(st'.obj 3=some (.arr 0 1 [.mref 2 0])∧3<st'.next)) (fun e st'=>False) ?_ ?_ ?_ ?_ ?_ ?_ ?_ ?_
   ·simp +contextual (maxSteps:=4000000) only[↓bdD,bdP]
   ·exact J9
   ·exact fun i=>.and (.obj fun _=>by simp) (.and (.obj fun _=>by simp) (.and (.obj fun _=>by simp) (.obj fun _=>by simp)))
   ·exact fun e=>Stays.const
   ·exact ⟨⟨b0,by simp⟩,⟨b1,by simp⟩,⟨b2,by simp⟩,⟨b3,by simp⟩⟩
   ·exact fun i st' h=>⟨h.2.2.1.1,h.2.2.2.1⟩
   ·rintro i v ⟨O6,M6⟩ id lr hv hid hlp ⟨⟨g0,_⟩,⟨g1,_⟩,⟨g2,_⟩,⟨g3,hM6⟩⟩
    obtain ⟨hi,rfl⟩:=LG hv
    dsimp only at hid hlp g0 g1 g2 g3 hM6
    obtain ⟨htD,hkL⟩:=TN.idx_lt (i:=i) hi
    have hsc:=bG (ls:=ls) (us:=us) (d:=d) (y:=y) (n:=i)
    have hb2:=M9 hf hB ⟨by omega,hb4⟩ r2 hD hyl ⟨a0,a1⟩ ⟨c0,c1⟩ (n:=i) (Nat.le_of_lt hi)
    have hb3:=M9 hf hB ⟨by omega,hb4⟩ r2 hD hyl ⟨a0,a1⟩ ⟨c0,c1⟩ (n:=i+1) hi
    generalize i / ls.length=t at *
    generalize i % ls.length=k at *
    have ht1:t+1<y.length:=by omega
    have ht0:t<y.length:=by omega
    have ht1i:((t+1:Nat):Int)<((Ar d+1:Nat):Int):=by omega
    have ht0i:(t:Int)<((Ar d+1:Nat):Int):=by omega
    obtain ⟨e1,e2',e3',e4,e5,e6⟩:=XA hf hB (y:=y) ⟨by omega,hb4⟩ r2 ht1 hkL
    have hend:=ok.net.ends k hkL
    have hl1:=hrow ht1
    have hl0':=hrow ht0
    have hp1:∀j,(y.getD (t+1) []).getD j 0=pt y (t+1) j:=fun j=>rfl
    have hp0':∀j,(y.getD t []).getD j 0=pt y t j:=fun j=>rfl
    have q1:=hB (t+1) ht1 (ls.getD k dL).2.1.toNat (by omega)
    have q0:=hB t ht0 (ls.getD k dL).1.toNat (by omega)
    have w5:IntKind.i64.wrap (d.2.2.2.1+(t:Int)-d.2.2.2.1)=(t:Int):=by rw[Aj (by omega) (by omega)];omega
    have w6:IntKind.i64.wrap ((t:Int)+1)=((t+1:Nat):Int):=by rw[Aj (by omega) (by omega)];omega
    have hk1:=QN (ls:=ls) (us:=us) (r:=d.2.2.2.1) (k:=k) (t:=t)
    have hk2:=QO (ls:=ls) (us:=us) (r:=d.2.2.2.1) (k:=k) (t:=t)
    have hk3:=QP (ls:=ls) (us:=us) (r:=d.2.2.2.1) (k:=k) (t:=t)
    have hk4:=LF (ls:=ls) (us:=us) (r:=d.2.2.2.1) (k:=k) (t:=t)
    have hk5:=Xz (ls:=ls) (us:=us) (r:=d.2.2.2.1) (k:=k) (t:=t)
    unfold Wc at hsc e5 e6
    generalize ls.getD k dL=lk at *
    generalize lfM ls us (k:Nat) (d.2.2.2.1+(t:Int))=lf at *
    generalize Fd ls (k:Nat) (d.2.2.2.1+(t:Int))=pr at *
    have hto:lk.2.1<((y.getD (t+1) []).length:Int):=by omega
    have hfr:lk.1<((y.getD t []).length:Int):=by omega
    have hto0:0≤lk.2.1:=by omega
    have hfr0:0≤lk.1:=by omega
    have hton:lk.2.1.toNat<(y.getD (t+1) []).length:=by omega
    have hfrn:lk.1.toNat<(y.getD t []).length:=by omega
    have n0:¬id=0:=fun e=>by rw[e,g0]at hlp;cases hlp
    have n1:¬id=1:=fun e=>by rw[e,g1]at hlp;cases hlp
    have n2:¬id=2:=fun e=>by rw[e,g2]at hlp;cases hlp
    have n3:¬id=3:=fun e=>by rw[e,g3]at hlp;cases hlp
    have m0:¬0=id:=fun e=>n0 e.symm
    have m1:¬1=id:=fun e=>n1 e.symm
    have m2:¬2=id:=fun e=>n2 e.symm
    have m3:¬3=id:=fun e=>n3 e.symm
    have o1:¬M6=id:=by omega
    have o2:¬id=M6:=by omega
    have o3:¬0=M6:=by omega
    have o4:¬1=M6:=by omega
    have o5:¬2=M6:=by omega
    have o6:¬3=M6:=by omega
    have o7:¬M6=0:=by omega
    have o8:¬M6=1:=by omega
    simp +contextual (maxSteps:=4000000) only[↓bdD,bdP,Nat.reduceLT,Nat.reduceBEq,Nat.reduceAdd,Nat.reduceLeDiff,reduceCtorEq,Store.new,Store.set,↓reduceIte,C7,ty3,AP,By,AX,Ck,Gp,GN,hlp,g0,g1,n1,m0,m1,o1,o2,o3,o4,o7,ES,Cj,w5,w6,hk1,hk2,hk3,hk4,hk5,B6,hA1,ht1,ht0,ht1i,ht0i,hto,hfr,hto0,hfr0,hton,hfrn,hp1,hp0',A4]
    generalize pt y (t+1) lk.2.1.toNat=p at *
    generalize pt y t lk.1.toNat=q at *
    have v1:IntKind.i64.wrap (IntKind.i64.wrap (p-q)-pr)=p-q-pr:=by rw[Aj (n:=p-q) (by omega) (by omega),Aj (by omega) (by omega)]
    have v2:(if lf<d.2.2.1 then lf else d.2.2.1)=min d.2.2.1 lf:=by split <;> omega
    have v3:(if 0<p-q-pr then p-q-pr else 0)=max 0 (p-q-pr):=by split <;> omega
    intro rb
    rw [v1,v2,v3]
    generalize min d.2.2.1 lf*max 0 (p-q-pr)=z at *
    refine ⟨by omega,by omega,⟨?_,by omega⟩,⟨?_,by omega⟩,?_,by omega⟩
    ·rw [Aj (n:=z) (by omega) (by omega),Aj (by omega) (by omega),hsc]
    ·simp only[Aa]
     rw [if_neg m2,if_neg o5,g2]
    ·simp only[Aa]
     rw [if_neg m3,if_neg o6,g3]
   ·rintro ⟨O6,M6⟩ ⟨_,⟨g1,_⟩,_⟩
    dsimp only at g1
    rw [J8,hR1]at g1
    simp +contextual (maxSteps:=4000000) only[↓bdD,bdP,Nat.reduceLT,Nat.reduceBEq,Ag,Nat.reduceAdd,↓reduceIte,ty3,g1]
   ·exact fun j st' h=>h.elim
   ·exact fun st' h=>h.elim
theorem TG:TF:=nY nZ
end Sim
