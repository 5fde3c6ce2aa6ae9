/- What functions of this seat compute, by values: contracts (lemmas of the statement's proof, under the conditions that each names). -/
import Derived.Test.YtppljhpecoeakaaQXD
set_option maxRecDepth 10000
set_option maxHeartbeats 4000000
set_option linter.unusedVariables false
set_option linter.unusedSimpArgs false
namespace Sim
open Go Go.Proofs
attribute [local congr] As At Am AI Av Au AA
noncomputable def HQ:(Int)×(List Lnk)×(List Snd)×(Dem)×(List (List Int))→List PV:=fun (hn,ls,us,d,y) => [.agg [I hn,Ax ls,Aw us,I d.1,I d.2.1,I d.2.2.1,I d.2.2.2.1,I d.2.2.2.2],CN y]
noncomputable def Ug:(Int)×(List Lnk)×(List Snd)×(Dem)×(List (List Int))→PV:=fun (hn,ls,us,d,y)=>I (shE hn d y)
def Uh:(Int)×(List Lnk)×(List Snd)×(Dem)×(List (List Int))→Prop:=fun (hn,ls,us,d,y)=>CF hn ls us d=0
noncomputable def e_rshape:Nat×Ent:=(37,.v (Ag HQ Ug Uh))
theorem qJ:∀i j,HQ i=HQ j→i=j:=by
 rintro ⟨hn₁,ls₁,us₁,d₁,y₁⟩ ⟨hn₂,ls₂,us₂,d₂,y₂⟩ h
 simp only[HQ,List.cons.injEq,and_true,PV.lits.injEq,PV.int.injEq,PV.agg.injEq,true_and,AK,AD,Et]at h
 simp [Prod.ext_iff,h] <;> omega
theorem Ui (hn:Int) (ls:List Lnk) (us:List Snd) (d:Dem) (y:List (List Int)):Ag HQ Ug Uh [.agg [I hn,Ax ls,Aw us,I d.1,I d.2.1,I d.2.2.1,I d.2.2.2.1,I d.2.2.2.2],CN y]=@ite (Option (PV)) (CF hn ls us d=0) (Classical.propDecidable _) (some (I (shE hn d y))) none:=BF qJ (hn,ls,us,d,y)
def Uj:Prop:=∀(hn:Int) (ls:List Lnk) (us:List Snd) (d:Dem) (y:List (List Int)) (h:CF hn ls us d=0) ,VC Try.prog 37 [.agg [I hn,Ax ls,Aw us,I d.1,I d.2.1,I d.2.2.1,I d.2.2.2.1,I d.2.2.2.2],CN y] (I (shE hn d y))
def Uk:Prop:=AM Try.prog e_rshape.1 e_rshape.2
theorem qK (c:Uj):Uk:=Ao fun⟨hn,ls,us,d,y⟩ h=>c hn ls us d y h
theorem qL:Uj:=by
 intro hn ls us d y h1
 refine AW AO (l := []) (An) [] []  Try.func37 rfl (by decide +kernel) (N:=96) rfl (by simp) rfl (by kernel_rfl) fun hs=>?_
 simp only[AH,PV.small,List.length_map,and_true,true_and]at hs
 obtain ⟨hfk,hb4⟩:=pck_zero.1 h1
 obtain ⟨hf,hdm,hD,hdu⟩:=CM hfk
 obtain ⟨⟨a0,a1⟩,⟨c0,c1⟩,hr⟩:=Cg hdm
 obtain ⟨ok,_⟩:=B7 hf
 have hlen:=ok.net.len
 obtain ⟨r0,r1,r2,r3,r4⟩:=hr
 have w1:IntKind.i64.wrap (d.2.2.2.2-d.2.2.2.1)=(Al d:Int):=by rw[Af (by omega) (by omega)];omega
 have w2:IntKind.i64.wrap ((Al d:Int)+1)=((Al d+1:Nat):Int):=by rw[Af (by omega) (by omega)];omega
 have hsl:=hs.2.1
 have hsm:=fun t=>Pr (k:=t) hs.2.2
 generalize hR2:shE hn d y=R2
 unfold shE at hR2
 have htn:(hn.toNat:Int)=hn:=by omega
 by_cases hA1:(y.length:Int)=((Al d+1:Nat):Int)
 case neg =>
  have hA:¬shA hn d y:=fun g=>hA1 (by rw[g.1];omega)
  rw [if_pos hA]at hR2
  subst hR2
  simp +contextual (maxSteps:=4000000) only[↓bdD,bdP,Nat.reduceLT,Nat.reduceBEq,Ai,Nat.reduceAdd,st0,↓reduceIte,Try.f37,ty3,AP,A6,A8,w1,w2,hA1]
 have hyl:y.length=Al d+1:=by omega
 simp +contextual (maxSteps:=4000000) only[↓bdD,bdP,Nat.reduceLT,Nat.reduceBEq,Nat.reduceAdd,st0,↓reduceIte,Try.f37,ty3,AP,A6,A8,w1,w2,hA1]
 refine Ar [4,5,21,22,23,24,25,26,27,28,29,30,31,32,33,34,35] y.length (fun k ρ st'=>ρ 5=I k∧(∀t,t<k→((y.getD t []).length:Int)=hn)) (.refl _) ?_ ?_
 ·simp +contextual (maxSteps:=4000000) only[↓bdD,bdP]
  exact fun t ht=>absurd ht (by omega)
 rintro k ρ ⟨O,M⟩ hk ⟨h5,hI⟩
 by_cases hlt:k<y.length
 ·have hwk:IntKind.i64.wrap ((k:Int)+1)=((k+1:Nat):Int):=by rw[Af (by omega) (by omega)];omega
  have hki:(k:Int)<((Al d+1:Nat):Int):=by omega
  by_cases c:((y.getD k []).length:Int)=hn
  ·simp +contextual (maxSteps:=4000000) only[↓bdD,bdP,Nat.reduceLT,Nat.reduceBEq,Nat.reduceAdd,↓reduceIte,Bx,ty3,Aq,A6,A8,AY,h5,hlt,hki,hA1,hwk,c]
   intro t ht
   by_cases e:t=k
   ·rw [e];exact c
   ·exact hI t (by omega)
  ·have hA:¬shA hn d y:=fun g=>c (LQ g hlt)
   rw [if_pos hA]at hR2
   subst hR2
   simp +contextual (maxSteps:=4000000) only[↓bdD,bdP,Nat.reduceLT,Nat.reduceBEq,Ai,Nat.reduceAdd,↓reduceIte,Bx,ty3,Aq,A6,A8,AY,h5,hlt,hki,hA1,c]
 have e:k=y.length:=by omega
 subst e
 have hA:shA hn d y:=⟨by rw[hA1];omega,fun l hl=>by
  obtain ⟨j,hj,rfl⟩:=List.getElem_of_mem hl
  have := hI j hj
  rwa [List.getD_eq_getElem?_getD,List.getElem?_eq_getElem hj]at this⟩
 rw [if_neg (fun g=>g hA)]at hR2
 have hrow:=fun {t:Nat} (ht:t<y.length)=>LQ hA ht
 simp +contextual (maxSteps:=4000000) only[↓bdD,bdP,Nat.reduceLT,Nat.reduceBEq,Nat.reduceAdd,↓reduceIte,A8,h5,hA1]
 refine Ar [4,6,7,36,37,38,39,40,41,42,43,44,45,46,47,48,49,50,51,52,53,54,55,56,57,58,59,60,61,62,63,64,65,66] y.length (fun k ρ st'=>ρ 6=I k∧(∀t,t<k→∀j,j<hn.toNat→0≤pt y t j∧pt y t j≤536870912)) (.refl _) ?_ ?_
 ·simp +contextual (maxSteps:=4000000) only[↓bdD,bdP]
  exact fun t ht=>absurd ht (by omega)
 clear h5 hk hI
 rintro k ρ ⟨O,M⟩ hk ⟨h6,hI⟩
 by_cases hlt:k<y.length
 ·have hwk:IntKind.i64.wrap ((k:Int)+1)=((k+1:Nat):Int):=by rw[Af (by omega) (by omega)];omega
  have hki:(k:Int)<((Al d+1:Nat):Int):=by omega
  have hl:=hrow hlt
  have hsk:=hsm k
  have hpt:∀j,(y.getD k []).getD j 0=pt y k j:=fun j=>rfl
  simp +contextual (maxSteps:=4000000) only[↓bdD,bdP,Nat.reduceLT,Nat.reduceBEq,Nat.reduceAdd,↓reduceIte,A8,h6,hlt,hki,hA1]
  refine Ar [4,7,42,43,44,45,46,47,48,49,50,51,52,53,54,55,56,57,58,59,60,61,62,63,64,65,66] hn.toNat (fun j ρ st'=>ρ 7=I j∧(∀i,i<j→0≤pt y k i∧pt y k i≤536870912)) (.refl _) ?_ ?_
  ·simp +contextual (maxSteps:=4000000) only[↓bdD,bdP]
   exact fun t ht=>absurd ht (by omega)
  rintro j ρ2 ⟨O2,M2⟩ hj ⟨h7,hI2⟩
  by_cases hltj:j<hn.toNat
  ·have hjl:j<(y.getD k []).length:=by omega
   have hji:(j:Int)<hn:=by omega
   have wj:IntKind.i64.wrap ((j:Int)+1)=((j+1:Nat):Int):=by rw[Af (by omega) (by omega)];omega
   have hjl2:(j:Int)<((y.getD k []).length:Int):=by omega
   by_cases m1:pt y k j<0
   ·have hB:¬shB hn y:=fun g=>by have:=g k hlt j hltj;omega
    rw [if_pos hB]at hR2
    subst hR2
    simp +contextual (maxSteps:=4000000) only[↓bdD,bdP,Nat.reduceLT,Nat.reduceBEq,Ai,Nat.reduceAdd,↓reduceIte,Bx,ty3,Aq,A6,A8,AY,h6,h7,hlt,hki,hA1,hjl,hjl2,hji,hpt,m1]
   ·by_cases m2:536870912<pt y k j
    ·have hB:¬shB hn y:=fun g=>by have:=g k hlt j hltj;omega
     rw [if_pos hB]at hR2
     subst hR2
     simp +contextual (maxSteps:=4000000) only[↓bdD,bdP,Nat.reduceLT,Nat.reduceBEq,Ai,Nat.reduceAdd,↓reduceIte,Bx,ty3,Aq,A6,A8,AY,h6,h7,hlt,hki,hA1,hjl,hjl2,hji,hpt,m1,m2]
    ·simp +contextual (maxSteps:=4000000) only[↓bdD,bdP,Nat.reduceLT,Nat.reduceBEq,Nat.reduceAdd,↓reduceIte,Bx,ty3,Aq,A6,A8,AY,h6,h7,hlt,hki,hA1,hjl,hjl2,hji,hpt,m1,m2,wj]
     refine ⟨hltj,fun i hi=>?_⟩
     by_cases e:i=j
     ·subst e;omega
     ·exact hI2 i (by omega)
  ·have e:j=hn.toNat:=by omega
   subst e
   have hji:¬(hn.toNat:Int)<hn:=by omega
   simp +contextual (maxSteps:=4000000) only[↓bdD,bdP,Nat.reduceLT,Nat.reduceBEq,Nat.reduceAdd,↓reduceIte,ty3,Aq,A6,h6,h7,hji,hwk]
   refine ⟨?_,fun t ht j hj=>?_⟩
   ·rw [AC (by decide +kernel)]
    simp +contextual (maxSteps:=4000000) only[↓bdD,bdP,Nat.reduceBEq]
   ·by_cases e:t=k
    ·subst e;exact hI2 j hj
    ·exact hI t (by omega) j hj
 ·have e:k=y.length:=by omega
  subst e
  have hB:shB hn y:=hI
  rw [if_neg (fun g=>g hB)]at hR2
  simp +contextual (maxSteps:=4000000) only[↓bdD,bdP,Nat.reduceLT,Nat.reduceBEq,Nat.reduceAdd,↓reduceIte,A8,h6,hA1]
  refine Ar [4,8,9,67,68,69,70,71,72,73,74,75,76,77,78,79,80,81,82,83,84,85,86,87,88,89,90,91,92,93,94,95] (y.length-1) (fun t ρ st'=>ρ 8=I ((t+1:Nat):Int)∧(∀s,s<t→∀j,j<hn.toNat→pt y (s+1) j≤pt y s j)) (.refl _) ?_ ?_
  ·simp +contextual (maxSteps:=4000000) only[↓bdD,bdP]
   exact fun t ht=>absurd ht (by omega)
  rintro t ρ2 ⟨O2,M2⟩ ht ⟨h8,hI2⟩
  by_cases hltt:t<y.length-1
  ·have ht1:t+1<y.length:=by omega
   have ht0:t<y.length:=by omega
   have ht1i:((t+1:Nat):Int)<((Al d+1:Nat):Int):=by omega
   have ht0i:(t:Int)<((Al d+1:Nat):Int):=by omega
   have wt1:IntKind.i64.wrap (((t+1:Nat):Int)+1)=((t+1+1:Nat):Int):=by rw[Af (by omega) (by omega)];omega
   have wt0:IntKind.i64.wrap (((t+1:Nat):Int)-1)=(t:Int):=by rw[Af (by omega) (by omega)];omega
   have hl1:=hrow ht1
   have hl0:=hrow ht0
   have hs0:=hsm t
   have hp1:∀j,(y.getD (t+1) []).getD j 0=pt y (t+1) j:=fun j=>rfl
   have hp0:∀j,(y.getD t []).getD j 0=pt y t j:=fun j=>rfl
   simp +contextual (maxSteps:=4000000) only[↓bdD,bdP,Nat.reduceLT,Nat.reduceBEq,Nat.reduceAdd,↓reduceIte,A8,h8,hA1,ht1i]
   refine Ar [4,9,73,74,75,76,77,78,79,80,81,82,83,84,85,86,87,88,89,90,91,92,93,94,95] hn.toNat (fun j ρ st'=>ρ 9=I j∧(∀i,i<j→pt y (t+1) i≤pt y t i)) (.refl _) ?_ ?_
   ·simp +contextual (maxSteps:=4000000) only[↓bdD,bdP]
    exact fun t ht=>absurd ht (by omega)
   rintro j ρ3 ⟨O3,M3⟩ hj ⟨h9,hI3⟩
   by_cases hltj:j<hn.toNat
   ·have hjl1:j<(y.getD (t+1) []).length:=by omega
    have hjl0:j<(y.getD t []).length:=by omega
    have hji1:(j:Int)<((y.getD (t+1) []).length:Int):=by omega
    have hji0:(j:Int)<((y.getD t []).length:Int):=by omega
    have hji:(j:Int)<hn:=by omega
    have wj:IntKind.i64.wrap ((j:Int)+1)=((j+1:Nat):Int):=by rw[Af (by omega) (by omega)];omega
    by_cases c:pt y t j<pt y (t+1) j
    ·have hC:¬shC hn y:=fun g=>by have:=g t hltt j (by omega);omega
     rw [if_pos hC]at hR2
     subst hR2
     simp +contextual (maxSteps:=4000000) only[↓bdD,bdP,Nat.reduceLT,Nat.reduceBEq,Ai,Nat.reduceAdd,↓reduceIte,Bx,ty3,Aq,A6,A8,AY,h9,h8,hji,hjl1,hjl0,hji1,hji0,ht1,ht0,ht1i,ht0i,hA1,wt0,hp1,hp0,c]
    ·simp +contextual (maxSteps:=4000000) only[↓bdD,bdP,Nat.reduceLT,Nat.reduceBEq,Nat.reduceAdd,↓reduceIte,Bx,ty3,Aq,A6,A8,AY,h9,h8,hji,hjl1,hjl0,hji1,hji0,ht1,ht0,ht1i,ht0i,hA1,wt0,wj,hp1,hp0,c]
     refine ⟨hltj,fun i hi=>?_⟩
     by_cases e:i=j
     ·subst e;omega
     ·exact hI3 i (by omega)
   ·have e:j=hn.toNat:=by omega
    subst e
    have hji:¬(hn.toNat:Int)<hn:=by omega
    simp +contextual (maxSteps:=4000000) only[↓bdD,bdP,Nat.reduceLT,Nat.reduceBEq,Nat.reduceAdd,↓reduceIte,ty3,Aq,A6,h9,h8,wt1,hji]
    refine ⟨hltt,?_,fun s hs j hj=>?_⟩
    ·rw [AC (by decide +kernel)]
     simp +contextual (maxSteps:=4000000) only[↓bdD,bdP,Nat.reduceBEq]
    ·by_cases e:s=t
     ·subst e;exact hI3 j (by omega)
     ·exact hI2 s (by omega) j hj
  ·have e:t=y.length-1:=by omega
   subst e
   have hC:shC hn y:=hI2
   rw [if_neg (fun g=>g hC)]at hR2
   subst hR2
   have e3:y.length-1+1=Al d+1:=by omega
   rw [e3]at h8
   simp +contextual (maxSteps:=4000000) only[↓bdD,bdP,Nat.reduceLT,Nat.reduceBEq,Ai,Nat.reduceAdd,↓reduceIte,A8,h8,hA1]
theorem qM:Uk:=qK qL
noncomputable def HR:(Int)×(List Lnk)×(List Snd)×(Dem)×(List (List Int))→List PV:=fun (hn,ls,us,d,y) => [.agg [I hn,Ax ls,Aw us,I d.1,I d.2.1,I d.2.2.1,I d.2.2.2.1,I d.2.2.2.2],CN y]
noncomputable def Ul:(Int)×(List Lnk)×(List Snd)×(Dem)×(List (List Int))→PV:=fun (hn,ls,us,d,y)=>.agg [I (F8 hn ls us d y),I (ED hn ls us d y)]
def Um:(Int)×(List Lnk)×(List Snd)×(Dem)×(List (List Int))→Prop:=fun (hn,ls,us,d,y)=>True
noncomputable def e_rbound:Nat×Ent:=(14,.v (Ag HR Ul Um))
theorem qN:∀i j,HR i=HR j→i=j:=by
 rintro ⟨hn₁,ls₁,us₁,d₁,y₁⟩ ⟨hn₂,ls₂,us₂,d₂,y₂⟩ h
 simp only[HR,List.cons.injEq,and_true,PV.lits.injEq,PV.int.injEq,PV.agg.injEq,true_and,AK,AD,Et]at h
 simp [Prod.ext_iff,h] <;> omega
theorem qO (hn:Int) (ls:List Lnk) (us:List Snd) (d:Dem) (y:List (List Int)):Ag HR Ul Um [.agg [I hn,Ax ls,Aw us,I d.1,I d.2.1,I d.2.2.1,I d.2.2.2.1,I d.2.2.2.2],CN y]=some (.agg [I (F8 hn ls us d y),I (ED hn ls us d y)]):=Az qN (i:=(hn,ls,us,d,y)) trivial
def Un:Prop:=∀(hn:Int) (ls:List Lnk) (us:List Snd) (d:Dem) (y:List (List Int)) ,VC Try.prog 14 [.agg [I hn,Ax ls,Aw us,I d.1,I d.2.1,I d.2.2.1,I d.2.2.2.1,I d.2.2.2.2],CN y] (.agg [I (F8 hn ls us d y),I (ED hn ls us d y)])
def Uo:Prop:=AM Try.prog e_rbound.1 e_rbound.2
theorem qP (c:Un):Uo:=Ao fun⟨hn,ls,us,d,y⟩ h=>c hn ls us d y
theorem qQ:Un:=by
 intro hn ls us d y
 refine AW AO (l := [e_rpcheck,e_rshape,e_pleft]) ((Ad dQ (Ad qM (Ad Yu An)))) [] []  Try.func14 rfl (by decide +kernel) (N:=116) rfl (by simp) rfl (by kernel_rfl) fun hs=>?_
 simp only[AH,PV.small,List.length_map,and_true,true_and]at hs
 generalize hR1:F8 hn ls us d y=R1
 generalize hR2:ED hn ls us d y=R2
 unfold F8 at hR1
 rw [hR2]at hR1
 unfold ED at hR2
 by_cases h1:CF hn ls us d=0
 case neg =>
  rw [if_pos h1]at hR2
  have e1:R1=0:=by rw[←hR1,if_pos (by rw[←hR2];exact h1)]
  have h2:¬R2=0:=by rw[←hR2];exact h1
  simp +contextual (maxSteps:=4000000) only[↓bdD,bdP,Nat.reduceLT,Nat.reduceBEq,Ai,Nat.reduceAdd,st0,Store.new,Store.set,↓reduceIte,e_rpcheck,K2,e_rshape,e_pleft,Ac,Ab,Try.f14,A6,Td,h2,hR2,e1]
 rw [if_neg (fun g=>g h1)]at hR2
 have h1':=h1
 obtain ⟨hfk,hb4⟩:=pck_zero.1 h1
 obtain ⟨hf,hdm,hD,hdu⟩:=CM hfk
 obtain ⟨⟨a0,a1⟩,⟨c0,c1⟩,hr⟩:=Cg hdm
 obtain ⟨ok,_⟩:=B7 hf
 have hlen:=ok.net.len
 obtain ⟨r0,r1,r2,r3,r4⟩:=hr
 by_cases hE:R2=0
 case neg =>
  have e1:R1=0:=by rw[←hR1,if_pos hE]
  simp +contextual (maxSteps:=4000000) only[↓bdD,bdP,Nat.reduceLT,Nat.reduceBEq,Ai,Nat.reduceEqDiff,Nat.reduceAdd,st0,Store.new,Store.set,↓reduceIte,e_rpcheck,K2,e_rshape,Ui,e_pleft,Ac,Ab,BH,Try.f14,A6,A8,Td,h1,hE,hR2,e1]
 obtain ⟨hA,hB,hC⟩:=shE_zero.1 (hR2.trans hE)
 subst hE
 rw [if_neg (fun g=>g rfl)]at hR1
 have w1:IntKind.i64.wrap (d.2.2.2.2-d.2.2.2.1)=(Al d:Int):=by rw[Af (by omega) (by omega)];omega
 have hA1:(y.length:Int)=((Al d+1:Nat):Int):=by rw[hA.1];omega
 have hyl:y.length=Al d+1:=by omega
 have hrow:=fun {t:Nat} (ht:t<y.length)=>LQ hA ht
 have hDl:Al d<y.length:=by omega
 have h0l:0<y.length:=by omega
 have hDi:(Al d:Int)<((Al d+1:Nat):Int):=by omega
 have h0i:(0:Int)<((Al d+1:Nat):Int):=by omega
 obtain ⟨fa,hfa⟩:∃u,d.1.toNat=u:=⟨_,rfl⟩
 obtain ⟨fc,hfc⟩:∃u,d.2.1.toNat=u:=⟨_,rfl⟩
 have hlD:=hrow hDl
 have hl0:=hrow h0l
 have hpD:∀j,(y.getD (Al d) []).getD j 0=pt y (Al d) j:=fun j=>rfl
 have hp0:∀j,(y.getD 0 []).getD j 0=pt y 0 j:=fun j=>rfl
 have bD:=hB (Al d) hDl fc (by omega)
 have b0:=hB 0 h0l fa (by omega)
 have hfa1:fa<(y.getD 0 []).length:=by omega
 have hfc1:fc<(y.getD (Al d) []).length:=by omega
 have hfai:d.1<((y.getD 0 []).length:Int):=by omega
 have hfci:d.2.1<((y.getD (Al d) []).length:Int):=by omega
 have w3:IntKind.i64.wrap (pt y (Al d) fc-pt y 0 fa)=pt y (Al d) fc-pt y 0 fa:=Af (by omega) (by omega)
 have hbI0:F7 ls us d y 0=d.2.2.1*(pt y (Al d) fc-pt y 0 fa):=by unfold F7;rw[hfa,hfc,Aj,Int.sub_zero]
 have hb1:=Ga hf hB ⟨by omega,hb4⟩ r2 hD hyl ⟨a0,a1⟩ ⟨c0,c1⟩ (n:=0) (Nat.zero_le _)
 rw [hbI0]at hb1
 have w4:IntKind.i64.wrap (d.2.2.1*(pt y (Al d) fc-pt y 0 fa))=F7 ls us d y 0:=by rw[hbI0,Af (by omega) (by omega)]
 simp +contextual (maxSteps:=4000000) only[↓bdD,bdP,Nat.reduceLT,Nat.reduceBEq,Nat.reduceEqDiff,Nat.reduceAdd,Nat.reduceLeDiff,reduceCtorEq,Int.reduceToNat,st0,Store.new,Store.set,↓reduceIte,e_rpcheck,K2,e_rshape,Ui,e_pleft,Ac,Ab,Bx,BH,Try.f14,ty3,AP,A6,A8,Td,AY,h1,hR2,hA1,w1,w3,w4,hfa,hfc,a0,c0,hfai,hfci,hDl,h0l,hDi,h0i,hfa1,hfc1,hpD,hp0,A4]
 obtain ⟨L,hL⟩:∃L,ls.length=L:=⟨_,rfl⟩
 rw [hL]at hR1
 refine Ar [7,8,9,10,11,12,51,52,53,54,55,56,57,58,59,60,61,62,63,64,65,66,67,68,69,70,71,72,73,74,75,76,77,78,79,80,81,82,83,84,85,86,87,88,89,90,91,92,93,94,95,96,97,98,99,100,101,102,103,104,105,106,107,108,109,110,111,112,113] (Al d) (fun t ρ st'=>ρ 8=I (d.2.2.2.1+(t:Int))∧ρ 7=I (F7 ls us d y (t*L))∧(st'.obj 0=some (.arr 0 2 [.agg [I 0,I 0]])∧st'.obj 1=some (.arr 0 5 [.agg [I d.1,I d.2.1,I d.2.2.1,I d.2.2.2.1,I d.2.2.2.2]])∧2≤st'.next)) (.refl _) ?_ ?_
 ·simp +contextual (maxSteps:=4000000) only[↓bdD,bdP,Nat.reduceBEq,Int.add_zero,Nat.zero_mul]
 rintro t ρ ⟨O,M⟩ ht ⟨h8,h7,o0,o1,hM⟩
 dsimp only at o0 o1 hM
 by_cases htD:t<Al d
 ·have hlt:d.2.2.2.1+(t:Int)<d.2.2.2.2:=by omega
  have ht1:t+1<y.length:=by omega
  have ht0:t<y.length:=by omega
  have ht1i:((t+1:Nat):Int)<((Al d+1:Nat):Int):=by omega
  have ht0i:(t:Int)<((Al d+1:Nat):Int):=by omega
  have hl1:=hrow ht1
  have hl0':=hrow ht0
  have hp1:∀j,(y.getD (t+1) []).getD j 0=pt y (t+1) j:=fun j=>rfl
  have hp0':∀j,(y.getD t []).getD j 0=pt y t j:=fun j=>rfl
  have w5:IntKind.i64.wrap (d.2.2.2.1+(t:Int)-d.2.2.2.1)=(t:Int):=by rw[Af (by omega) (by omega)];omega
  have w6:IntKind.i64.wrap (d.2.2.2.1+(t:Int)+1)=d.2.2.2.1+((t+1:Nat):Int):=by rw[Af (by omega) (by omega)];omega
  have w7:IntKind.i64.wrap (d.2.2.2.1+((t+1:Nat):Int)-d.2.2.2.1)=((t+1:Nat):Int):=by rw[Af (by omega) (by omega)];omega
  simp +contextual (maxSteps:=4000000) only[↓bdD,bdP,Nat.reduceLT,Nat.reduceBEq,Nat.reduceAdd,↓reduceIte,ty3,AP,h8,o1,hlt]
  refine Ar [7,9,10,11,12,57,58,59,60,61,62,63,64,65,66,67,68,69,70,71,72,73,74,75,76,77,78,79,80,81,82,83,84,85,86,87,88,89,90,91,92,93,94,95,96,97,98,99,100,101,102,103,104,105,106,107,108,109,110,111,112,113] L (fun k ρ st'=>ρ 9=I k∧ρ 7=I (F7 ls us d y (t*L+k))∧(st'.obj 0=some (.arr 0 2 [.agg [I 0,I 0]])∧st'.obj 1=some (.arr 0 5 [.agg [I d.1,I d.2.1,I d.2.2.1,I d.2.2.2.1,I d.2.2.2.2]])∧2≤st'.next)) (.refl _) ?_ ?_
  ·simp +contextual (maxSteps:=4000000) only[↓bdD,bdP,Nat.reduceBEq]
   exact ⟨h7,o0,o1,hM⟩
  rintro k ρ2 ⟨O2,M2⟩ hk ⟨h9,h7',o02,o12,hM2⟩
  dsimp only at o02 o12 hM2
  by_cases hkL:k<L
  ·have wk:IntKind.i64.wrap ((k:Int)+1)=((k+1:Nat):Int):=BM (by omega)
   have hkl:k<ls.length:=by omega
   have hki:(k:Int)<(L:Int):=by omega
   obtain ⟨e1,e2',e3',e4,e5,e6⟩:=Rm hf hB (y:=y) ⟨by omega,hb4⟩ r2 ht1 hkl
   have hend:=ok.net.ends k hkl
   have q1:=hB (t+1) ht1 (ls.getD k dL).2.1.toNat (by omega)
   have q0:=hB t ht0 (ls.getD k dL).1.toNat (by omega)
   have hlt2:t*L+k<Al d*ls.length:=by rw[hL];exact TN.row_lt htD hkL
   have hsc:=Ps (ls:=ls) (us:=us) (d:=d) (y:=y) (n:=t*L+k)
   have hb2:=Ga hf hB ⟨by omega,hb4⟩ r2 hD hyl ⟨a0,a1⟩ ⟨c0,c1⟩ (n:=t*L+k) (Nat.le_of_lt hlt2)
   have hb3:=Ga hf hB ⟨by omega,hb4⟩ r2 hD hyl ⟨a0,a1⟩ ⟨c0,c1⟩ (n:=t*L+k+1) hlt2
   rw [hL,(TN.row_idx hkL).1,(TN.row_idx hkL).2]at hsc
   have sp:=Yr (hn:=hn) (ls:=ls) (us:=us) (d:=d) (link:=(k:Int)) (tick:=d.2.2.2.1+(t:Int))
   rw [if_pos ⟨hf,by omega,by omega,by omega⟩]at sp
   dsimp only[Ax,Aw]at sp
   have h24:=I3 (t:=d.2.2.2.1+(t:Int)) (by omega)
   have hpr:EA ls (k:Int) (d.2.2.2.1+(t:Int))=D5 (ls.getD k dL) ((d.2.2.2.1+(t:Int)).toNat % 24):=by unfold EA;rw[Int.toNat_natCast]
   have hlt24:(d.2.2.2.1+(t:Int)).toNat % 24<24:=Nat.mod_lt _ (by omega)
   have hli24:(((d.2.2.2.1+(t:Int)).toNat % 24:Nat):Int)<24:=by omega
   unfold Ua at hsc e5 e6
   rw [hpr]at hsc e3' e4 e5 e6
   generalize (d.2.2.2.1+(t:Int)).toNat % 24=hr at *
   have hc2:=Dt (a:=ls.getD k dL) hlt24
   have hk0:=Db (a:=ls.getD k dL)
   have hk1:=Fd (a:=ls.getD k dL)
   generalize hlk:ls.getD k dL=lk at *
   generalize lfM ls us (k:Int) (d.2.2.2.1+(t:Int))=lf at *
   generalize D5 lk hr=pr at *
   have hto:lk.2.1<((y.getD (t+1) []).length:Int):=by omega
   have hfr:lk.1<((y.getD t []).length:Int):=by omega
   have hto0:0≤lk.2.1:=by omega
   have hfr0:0≤lk.1:=by omega
   have hton:lk.2.1.toNat<(y.getD (t+1) []).length:=by omega
   have hfrn:lk.1.toNat<(y.getD t []).length:=by omega
   have d0:¬0=M2:=by omega
   have d1:¬1=M2:=by omega
   have d2:¬M2=0:=by omega
   have d3:¬M2=1:=by omega
   have v1:IntKind.i64.wrap (IntKind.i64.wrap (pt y (t+1) lk.2.1.toNat-pt y t lk.1.toNat)-pr)=pt y (t+1) lk.2.1.toNat-pt y t lk.1.toNat-pr:=by rw[Af (n:=pt y (t+1) lk.2.1.toNat-pt y t lk.1.toNat) (by omega) (by omega),Af (by omega) (by omega)]
   simp +contextual (maxSteps:=4000000) only[↓bdD,bdP,Nat.reduceLT,Nat.reduceBEq,Nat.reduceEqDiff,Nat.reduceAdd,Nat.reduceLeDiff,Int.reduceEq,Store.new,Store.set,↓reduceIte,Ac,A7,Ab,Bu,BZ,Nat.mul_one,Bx,ty3,Bq,Aq,AP,A6,A8,AY,GY,B0,h8,h9,h7',o02,o12,d0,d1,d2,hL,hkL,hki,hlk,h24,hli24,hc2,hk0,hk1,w5,w6,w7,wk,sp,hA1,ht1,ht0,ht1i,ht0i,hto,hfr,hto0,hfr0,hton,hfrn,hp1,hp0',v1,A4]
   generalize pt y (t+1) lk.2.1.toNat=p at *
   generalize pt y t lk.1.toNat=q at *
   have v2:(if lf<d.2.2.1 then lf else d.2.2.1)=min d.2.2.1 lf:=by split <;> omega
   have v3:(if 0<p-q-pr then p-q-pr else 0)=max 0 (p-q-pr):=by split <;> omega
   rw [v2,v3,Int.mul_comm (max 0 (p-q-pr))]
   generalize min d.2.2.1 lf*max 0 (p-q-pr)=z at *
   refine ⟨?_,by omega⟩
   rw [Af (n:=z) (by omega) (by omega),Af (by omega) (by omega),←hsc]
   rfl
  ·have e:k=L:=by omega
   rw [e]at h9 h7'
   have hLL:¬(L:Int)<(L:Int):=by omega
   have hs1:(t+1)*L=t*L+L:=Nat.succ_mul _ _
   simp +contextual (maxSteps:=4000000) only[↓bdD,bdP,Nat.reduceLT,Nat.reduceBEq,Nat.reduceAdd,↓reduceIte,Bq,Aq,A6,h8,h9,h7',o02,o12,hL,w6,hs1]
   refine ⟨htD,?_,hM2⟩
   rw [AC (by decide +kernel)]
   simp +contextual (maxSteps:=4000000) only[↓bdD,bdP,Nat.reduceBEq]
 ·have e:t=Al d:=by omega
  rw [e]at h8 h7
  have hdd:¬d.2.2.2.1+((Al d:Nat):Int)<d.2.2.2.2:=by omega
  rw [hR1]at h7
  simp +contextual (maxSteps:=4000000) only[↓bdD,bdP,Nat.reduceLT,Nat.reduceBEq,Ai,Nat.reduceAdd,Nat.reduceLeDiff,Store.set,↓reduceIte,ty3,AP,Td,h8,h7,o0,o1,hdd]
theorem qR:Uo:=qP qQ
end Sim
