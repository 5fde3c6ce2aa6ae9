/- What functions of this seat compute, by values: contracts (lemmas of the statement's proof, under the conditions that each names). -/
import Derived.Test.YtppljhpecoeakaaQXC
set_option maxRecDepth 10000
set_option maxHeartbeats 4000000
set_option linter.unusedVariables false
set_option linter.unusedSimpArgs false
namespace Sim
open Go Go.Proofs
attribute [local congr] Ap Aq Al AC As Ar Av
theorem zV {hn:Int} {d:Dem} {y:List (List Int)} (h:shA hn d y) {t:Nat} (ht:t<y.length):((y.getD t []).length:Int)=hn :=
 h.2 _ (by rw[List.getD_eq_getElem?_getD,List.getElem?_eq_getElem ht];exact List.getElem_mem _)
noncomputable def HN:(Int)×(List Lnk)×(List Snd)×(Dem)×(List (List Int))→List PV:=fun (hn,ls,us,d,y) => [.agg [I hn,Az ls,AB us,I d.1,I d.2.1,I d.2.2.1,I d.2.2.2.1,I d.2.2.2.2],DK y]
noncomputable def TS:(Int)×(List Lnk)×(List Snd)×(Dem)×(List (List Int))→PV:=fun (hn,ls,us,d,y)=>.tuple [I (GC hn ls us d y),I (D4 hn ls us d y)]
def TT:(Int)×(List Lnk)×(List Snd)×(Dem)×(List (List Int))→Prop:=fun (hn,ls,us,d,y)=>True
noncomputable def e_pbound:Nat×Ent:=(13,.v (Ah HN TS TT))
theorem oR:∀i j,HN i=HN j→i=j:=by
 rintro ⟨hn₁,ls₁,us₁,d₁,y₁⟩ ⟨hn₂,ls₂,us₂,d₂,y₂⟩ h
 simp only[HN,List.cons.injEq,and_true,PV.lits.injEq,PV.int.injEq,PV.agg.injEq,true_and,AR,AG,HL]at h
 simp [Prod.ext_iff,h] <;> omega
theorem Ev (hn:Int) (ls:List Lnk) (us:List Snd) (d:Dem) (y:List (List Int)):Ah HN TS TT [.agg [I hn,Az ls,AB us,I d.1,I d.2.1,I d.2.2.1,I d.2.2.2.1,I d.2.2.2.2],DK y]=some (.tuple [I (GC hn ls us d y),I (D4 hn ls us d y)]):=AA oR (i:=(hn,ls,us,d,y)) trivial
def TU:Prop:=∀(hn:Int) (ls:List Lnk) (us:List Snd) (d:Dem) (y:List (List Int)) ,VC Try.prog 13 [.agg [I hn,Az ls,AB us,I d.1,I d.2.1,I d.2.2.1,I d.2.2.2.1,I d.2.2.2.2],DK y] (.tuple [I (GC hn ls us d y),I (D4 hn ls us d y)])
def TV:Prop:=AM Try.prog e_pbound.1 e_pbound.2
theorem oS (c:TU):TV:=At fun⟨hn,ls,us,d,y⟩ h=>c hn ls us d y
theorem oT:TU:=by
 intro hn ls us d y
 refine VP AP (l := [e_pcheck,e_cntR,e_mnR,e_mxR,e_runs]) ((Ae HK (Ae Ae5 (Ae Aif (Ae Aij (Ae QV Ao)))))) [] [] 0 1 Try.func13 rfl (by decide +kernel) (N:=144) rfl (by simp) rfl (by kernel_rfl) fun hs=>?_
 simp only[AI,PV.small,List.length_map,and_true,true_and]at hs
 generalize hR1:GC hn ls us d y=R1
 generalize hR2:D4 hn ls us d y=R2
 unfold GC at hR1
 rw [hR2]at hR1
 unfold D4 at hR2
 by_cases h1:CH hn ls us d=0
 case neg =>
  rw [if_pos h1]at hR2
  have e1:R1=0:=by rw[←hR1,if_pos (by rw[←hR2];exact h1)]
  have h2:¬R2=0:=by rw[←hR2];exact h1
  simp +contextual (maxSteps:=4000000) only[↓bdD,bdP,Nat.reduceLT,Nat.reduceBEq,Ai,Nat.reduceAdd,↓reduceIte,e_pcheck,BL,e_cntR,e_mnR,e_mxR,e_runs,Ac,Ab,Try.f13,Bk,h2,hR2,e1]
 rw [if_neg (fun g=>g h1)]at hR2
 obtain ⟨hfk,hb4⟩:=pck_zero.1 h1
 obtain ⟨hf,hdm,hD,hdu⟩:=CC hfk
 obtain ⟨⟨a0,a1⟩,⟨c0,c1⟩,hr⟩:=B9 hdm
 obtain ⟨ok,_⟩:=B8 hf
 have hlen:=ok.net.len
 obtain ⟨r0,r1,r2,r3,r4⟩:=hr
 have w1:IntKind.i64.wrap (d.2.2.2.2-d.2.2.2.1)=(An d:Int):=by rw[Ag (by omega) (by omega)];omega
 have w2:IntKind.i64.wrap ((An d:Int)+1)=((An d+1:Nat):Int):=by rw[Ag (by omega) (by omega)];omega
 unfold shE at hR2
 by_cases hA:shA hn d y
 case neg =>
  rw [if_pos hA]at hR2
  subst hR2
  have e1:R1=0:=by rw[←hR1,if_pos (by decide)]
  by_cases hA1:(y.length:Int)=((An d+1:Nat):Int)
  ·have hA2:0≤Is hn y:=fnd_iff.2 fun g=>hA ⟨by rw[hA1];omega,g⟩
   simp +contextual (maxSteps:=4000000) only[↓bdD,bdP,Nat.reduceLT,Nat.reduceBEq,Ai,Nat.reduceEqDiff,Nat.reduceAdd,Nat.reduceLeDiff,Store.new,Store.set,↓reduceIte,e_pcheck,BL,e_cntR,oK,e_mnR,e_mxR,e_runs,Ac,Ab,BT,Try.f13,ty3,AX,Bk,Bf,wI,h1,w1,w2,hA1,hA2,e1]
  ·simp +contextual (maxSteps:=4000000) only[↓bdD,bdP,Nat.reduceLT,Nat.reduceBEq,Ai,Nat.reduceAdd,Nat.reduceLeDiff,Store.new,Store.set,↓reduceIte,e_pcheck,BL,e_cntR,e_mnR,e_mxR,e_runs,Ac,Ab,Try.f13,ty3,AX,Bk,Bf,h1,w1,w2,hA1,e1]
 have hA1:(y.length:Int)=((An d+1:Nat):Int):=by rw[hA.1];omega
 have hA2:¬0≤Is hn y:=fun g=>fnd_iff.1 g hA.2
 rw [if_neg (fun g=>g hA)]at hR2
 have hyl:y.length=An d+1:=by omega
 have hsm:=fun t=>cD (k:=t) hs.2.2
 have hrow:=fun {t:Nat} (ht:t<y.length)=>zV hA ht
 have htn:(hn.toNat:Int)=hn:=by omega
 simp +contextual (maxSteps:=4000000) only[↓bdD,bdP,Nat.reduceLT,Nat.reduceBEq,Nat.reduceEqDiff,Nat.reduceAdd,Nat.reduceLeDiff,Store.new,Store.set,↓reduceIte,e_pcheck,BL,e_cntR,oK,e_mnR,e_mxR,e_runs,Ac,Ab,BT,Try.f13,ty3,AX,Bk,Bf,wI,h1,w1,w2,hA1,hA2]
 refine Ax [4,5,9,39,40,41,42,43,44,45,46,47,48,49,50,51] y.length (fun k ρ st'=>ρ 39=I k∧(∀t,t<k→∀j,j<hn.toNat→0≤pt y t j∧pt y t j≤536870912)∧(st'.obj 0=some (.arr 0 5 [.agg [I d.1,I d.2.1,I d.2.2.1,I d.2.2.2.1,I d.2.2.2.2]])∧st'.next=1∧WF st')) (.refl _) ?_ ?_
 ·simp +contextual (maxSteps:=4000000) only[↓bdD,bdP]
  refine ⟨fun t ht=>absurd ht (by omega),fun i o hi=>?_⟩
  simp only[Aa]at hi
  dsimp only
  by_cases e:i=0
  ·omega
  ·simp [e]at hi
 rintro k ρ ⟨O,M⟩ hk ⟨h39,hI,o0,hM,hwf⟩
 dsimp only at o0 hM
 subst hM
 by_cases hlt:k<y.length
 ·have hwk:IntKind.i64.wrap ((k:Int)+1)=((k+1:Nat):Int):=by rw[Ag (by omega) (by omega)];omega
  have hki:(k:Int)<((An d+1:Nat):Int):=by omega
  have hl:=hrow hlt
  have hpt:∀j,(y.getD k []).getD j 0=pt y k j:=fun j=>rfl
  generalize hyk:y.getD k []=l at *
  have hne:l ≠ []:=fun e=>by rw[e]at hl;simp at hl;omega
  have hln:l.length=hn.toNat:=by omega
  have hmn:=oP (l:=l) (b:=0) (Nat.le_refl _) (by omega)
  have hmx:=oQ (l:=l) (b:=536870912) (Nat.le_refl _) (by omega)
  by_cases m1:mnT l l.length<0
  ·have hB:¬shB hn y:=fun g=>by
    have := hmn.2 fun j hj=>by rw[hpt];exact (g k hlt j (by omega)).1
    omega
   rw [if_pos hB]at hR2
   subst hR2
   have e1:R1=0:=by rw[←hR1,if_pos (by decide)]
   simp +contextual (maxSteps:=4000000) only[↓bdD,bdP,Nat.reduceLT,Nat.reduceBEq,Ai,Nat.reduceEqDiff,Nat.reduceAdd,↓reduceIte,oO,CD,Bf,AZ,h39,hlt,hki,hA1,hyk,hne,m1,e1]
  ·by_cases m2:536870912<mxT l l.length
   ·have hB:¬shB hn y:=fun g=>by
     have := hmx.2 fun j hj=>by rw[hpt];exact (g k hlt j (by omega)).2
     omega
    rw [if_pos hB]at hR2
    subst hR2
    have e1:R1=0:=by rw[←hR1,if_pos (by decide)]
    simp +contextual (maxSteps:=4000000) only[↓bdD,bdP,Nat.reduceLT,Nat.reduceBEq,Ai,Nat.reduceEqDiff,Nat.reduceAdd,↓reduceIte,oO,Abq,CD,Bf,AZ,h39,hlt,hki,hA1,hyk,hne,m1,m2,e1]
   ·simp +contextual (maxSteps:=4000000) only[↓bdD,bdP,Nat.reduceLT,Nat.reduceBEq,Nat.reduceEqDiff,Nat.reduceAdd,↓reduceIte,oO,Abq,CD,Bf,AZ,h39,hlt,hki,hwk,hA1,hyk,hne,m1,m2]
    refine ⟨fun t ht j hj=>?_,o0,hwf⟩
    by_cases e:t=k
    ·subst e
     have h1:=hmn.1 (by omega) j (by omega)
     have h2:=hmx.1 (by omega) j (by omega)
     rw [hpt]at h1 h2
     exact ⟨h1,h2⟩
    ·exact hI t (by omega) j hj
 ·have e:k=y.length:=by omega
  subst e
  have hB:shB hn y:=hI
  rw [if_neg (fun g=>g hB)]at hR2
  simp +contextual (maxSteps:=4000000) only[↓bdD,bdP,Nat.reduceLT,Nat.reduceBEq,↓reduceIte,h39,hA1]
  refine Ax [4,5,10,11,12,52,53,54,55,56,57,58,59,60,61,62,63,64,65,66,67,68,69,70,71,72,73,74,75,76,77,78] (y.length-1) (fun t ρ st'=>ρ 10=I ((t+1:Nat):Int)∧(∀s,s<t→∀j,j<hn.toNat→pt y (s+1) j≤pt y s j)∧(st'.obj 0=some (.arr 0 5 [.agg [I d.1,I d.2.1,I d.2.2.1,I d.2.2.2.1,I d.2.2.2.2]])∧st'.next=1∧WF st')) (.refl _) ?_ ?_
  ·simp +contextual (maxSteps:=4000000) only[↓bdD,bdP]
   exact ⟨fun t ht=>absurd ht (by omega),o0,hwf⟩
  rintro t ρ2 ⟨O2,M2⟩ ht ⟨h10,hI2,o02,hM2,hwf2⟩
  dsimp only at o02 hM2
  subst hM2
  by_cases hltt:t<y.length-1
  ·have ht1:t+1<y.length:=by omega
   have ht0:t<y.length:=by omega
   have ht1i:((t+1:Nat):Int)<((An d+1:Nat):Int):=by omega
   have ht0i:(t:Int)<((An d+1:Nat):Int):=by omega
   have wt1:IntKind.i64.wrap (((t+1:Nat):Int)+1)=((t+1+1:Nat):Int):=by rw[Ag (by omega) (by omega)];omega
   have wt0:IntKind.i64.wrap (((t+1:Nat):Int)-1)=(t:Int):=by rw[Ag (by omega) (by omega)];omega
   have hl1:=hrow ht1
   have hl0:=hrow ht0
   have hs0:=hsm t
   have hp1:∀j,(y.getD (t+1) []).getD j 0=pt y (t+1) j:=fun j=>rfl
   have hp0:∀j,(y.getD t []).getD j 0=pt y t j:=fun j=>rfl
   generalize hy1:y.getD (t+1) []=l1 at *
   generalize hy0:y.getD t []=l0 at *
   simp +contextual (maxSteps:=4000000) only[↓bdD,bdP,Nat.reduceLT,Nat.reduceBEq,Nat.reduceAdd,↓reduceIte,CD,Bf,AZ,h10,hA1,ht1,ht1i,hy1]
   refine Ax [4,5,11,12,63,64,65,66,67,68,69,70,71,72,73,74,75,76,77,78] l1.length (fun j ρ st'=>ρ 63=I j∧(∀i,i<j→pt y (t+1) i≤pt y t i)∧(st'.obj 0=some (.arr 0 5 [.agg [I d.1,I d.2.1,I d.2.2.1,I d.2.2.2.1,I d.2.2.2.2]])∧st'.next=1∧WF st')) (.refl _) ?_ ?_
   ·simp +contextual (maxSteps:=4000000) only[↓bdD,bdP]
    exact ⟨fun t ht=>absurd ht (by omega),o02,hwf2⟩
   rintro j ρ3 ⟨O3,M3⟩ hj ⟨h63,hI3,o03,hM3,hwf3⟩
   dsimp only at o03 hM3
   subst hM3
   by_cases hltj:j<l1.length
   ·have hltj0:j<l0.length:=by omega
    have wj:IntKind.i64.wrap ((j:Int)+1)=((j+1:Nat):Int):=by rw[Ag (by omega) (by omega)];omega
    by_cases c:pt y t j<pt y (t+1) j
    ·have hC:¬shC hn y:=fun g=>by have:=g t hltt j (by omega);omega
     rw [if_pos hC]at hR2
     subst hR2
     have e1:R1=0:=by rw[←hR1,if_pos (by decide)]
     simp +contextual (maxSteps:=4000000) only[↓bdD,bdP,Nat.reduceLT,Nat.reduceBEq,Ai,Nat.reduceAdd,↓reduceIte,CD,ty3,Bf,AZ,h63,h10,hltj,hltj0,ht0,ht0i,hA1,wt0,hy0,hp1,hp0,c,e1]
    ·simp +contextual (maxSteps:=4000000) only[↓bdD,bdP,Nat.reduceLT,Nat.reduceBEq,Nat.reduceAdd,↓reduceIte,CD,ty3,Bf,AZ,h63,h10,hltj,hltj0,ht0,ht0i,hA1,wt0,wj,hy0,hp1,hp0,c]
     refine ⟨fun i hi=>?_,o03,hwf3⟩
     by_cases e:i=j
     ·subst e;omega
     ·exact hI3 i (by omega)
   ·have e:j=l1.length:=by omega
    subst e
    simp +contextual (maxSteps:=4000000) only[↓bdD,bdP,Nat.reduceLT,Nat.reduceBEq,↓reduceIte,h63,h10,wt1]
    refine ⟨hltt,?_,fun s hs j hj=>?_,o03,hwf3⟩
    ·rw [AF (by decide +kernel)]
     simp +contextual (maxSteps:=4000000) only[↓bdD,bdP,Nat.reduceBEq]
    ·by_cases e:s=t
     ·subst e;exact hI3 j (by omega)
     ·exact hI2 s (by omega) j hj
  ·have e:t=y.length-1:=by omega
   subst e
   have hC:shC hn y:=hI2
   rw [if_neg (fun g=>g hC)]at hR2
   subst hR2
   rw [if_neg (fun g=>g rfl)]at hR1
   have e2:y.length-1=An d:=by omega
   have e3:y.length-1+1=An d+1:=by omega
   rw [e3]at h10
   have hDl:An d<y.length:=by omega
   have h0l:0<y.length:=by omega
   have hDi:(An d:Int)<((An d+1:Nat):Int):=by omega
   have h0i:(0:Int)<((An d+1:Nat):Int):=by omega
   obtain ⟨fa,hfa⟩:∃u,d.1.toNat=u:=⟨_,rfl⟩
   obtain ⟨fc,hfc⟩:∃u,d.2.1.toNat=u:=⟨_,rfl⟩
   have hf1:d.1=(fa:Int):=by omega
   have hf2:d.2.1=(fc:Int):=by omega
   have hlD:=hrow hDl
   have hl0:=hrow h0l
   have hpD:∀j,(y.getD (An d) []).getD j 0=pt y (An d) j:=fun j=>rfl
   have hp0:∀j,(y.getD 0 []).getD j 0=pt y 0 j:=fun j=>rfl
   have bD:=hB (An d) hDl fc (by omega)
   have b0:=hB 0 h0l fa (by omega)
   have hfa1:fa<(y.getD 0 []).length:=by omega
   have hfc1:fc<(y.getD (An d) []).length:=by omega
   have hfai:d.1<((y.getD 0 []).length:Int):=by omega
   have hfci:d.2.1<((y.getD (An d) []).length:Int):=by omega
   have w3:IntKind.i64.wrap (pt y (An d) fc-pt y 0 fa)=pt y (An d) fc-pt y 0 fa:=Ag (by omega) (by omega)
   have hbI0:Jg ls us d y 0=d.2.2.1*(pt y (An d) fc-pt y 0 fa):=by unfold Jg;rw[hfa,hfc,Aj,Int.sub_zero]
   have hb1:=Nh hf hB ⟨by omega,hb4⟩ r2 hD hyl ⟨a0,a1⟩ ⟨c0,c1⟩ (n:=0) (Nat.zero_le _)
   rw [hbI0]at hb1
   have w4:IntKind.i64.wrap (d.2.2.1*(pt y (An d) fc-pt y 0 fa))=Jg ls us d y 0:=by rw[hbI0,Ag (by omega) (by omega)]
   obtain ⟨O4,hO4⟩:∃O4:Nat→Option IObj,Aa O2 1 (some (.arr 0 1 [I (Jg ls us d y 0)]))=O4:=⟨_,rfl⟩
   have hw4:WF ⟨O4,2⟩:=fun i o hi=>by
    dsimp only at hi ⊢
    rw [←hO4]at hi
    simp only[Aa]at hi
    split at hi
    ·omega
    ·have := hwf2 i o hi
     dsimp only at this
     omega
   have sp:=Nc ⟨hn,ls,us,d⟩ (st:=⟨O4,2⟩) hf
   simp only[CU]at sp
   simp +contextual (maxSteps:=4000000) only[↓bdD,bdP,Nat.reduceLT,Nat.reduceBEq,Nat.reduceEqDiff,Nat.reduceAdd,Nat.reduceLeDiff,reduceCtorEq,Int.reduceToNat,Store.new,Store.set,↓reduceIte,Ac,Ab,CD,ty3,AX,Bk,Bf,AZ,h10,hA1,w1,w3,w4,hfa,hfc,a0,c0,hfai,hfci,hDl,h0l,hDi,h0i,hfa1,hfc1,hpD,hp0,o02,A4,hO4,sp]
   have b0:rnO O4 2 us 0=some (.arr 0 5 [.agg [I d.1,I d.2.1,I d.2.2.1,I d.2.2.2.1,I d.2.2.2.2]]):=by simp[rnO,←hO4,Aa,o02]
   have b1:rnO O4 2 us 1=some (.arr 0 1 [I (Jg ls us d y 0)]):=by simp[rnO,←hO4,Aa]
   have b2:rnO O4 2 us 2=some (.map 0 (.ints 2) (us.map tkE)):=by simp[rnO]
   have b3:rnO O4 2 us 3=some (.arr 0 1 [.mref 2 0]):=by simp[rnO]
   generalize rnO O4 2 us=O5 at *
   have hyr:=QW (hn:=hn) (M:=2) (D:=An d) hf hdu r2 r4
   refine Fb (ys:=Jf ls us d.2.2.2.1 (An d)) (f:=53) (first := []) (captured := [frP hn ls us d,.ptr 3 0 0 0]) rfl rfl (AV rfl) ?_ hyr rfl ?_ (by kernel_rfl) (by kernel_rfl)
    (fun i st'=>(st'.obj 0=some (.arr 0 5 [.agg [I d.1,I d.2.1,I d.2.2.1,I d.2.2.2.1,I d.2.2.2.2]])∧0<st'.next)∧(st'.obj 1=some (.arr 0 1 [I (Jg ls us d y i)])∧1<st'.next)∧(st'.obj 2=some (.map 0 (.ints 2) (us.map tkE))∧2<st'.next)∧(st'.obj 3=some (.arr 0 1 [.mref 2 0])∧3<st'.next)) (fun e st'=>False) ?_ ?_ ?_ ?_ ?_ ?_ ?_ ?_
   ·simp +contextual (maxSteps:=4000000) only[↓bdD,bdP]
   ·exact Kh
   ·exact fun i=>.and (.obj fun _=>by simp) (.and (.obj fun _=>by simp) (.and (.obj fun _=>by simp) (.obj fun _=>by simp)))
   ·exact fun e=>Stays.const
   ·exact ⟨⟨b0,by simp⟩,⟨b1,by simp⟩,⟨b2,by simp⟩,⟨b3,by simp⟩⟩
   ·exact fun i st' h=>⟨h.2.2.1.1,h.2.2.2.1⟩
   ·rintro i v ⟨O6,M6⟩ id lr hv hid hlp ⟨⟨g0,_⟩,⟨g1,_⟩,⟨g2,_⟩,⟨g3,hM6⟩⟩
    obtain ⟨hi,rfl⟩:=LJ hv
    dsimp only at hid hlp g0 g1 g2 g3 hM6
    obtain ⟨htD,hkL⟩:=TN.idx_lt (i:=i) hi
    have hsc:=cE (ls:=ls) (us:=us) (d:=d) (y:=y) (n:=i)
    have hb2:=Nh hf hB ⟨by omega,hb4⟩ r2 hD hyl ⟨a0,a1⟩ ⟨c0,c1⟩ (n:=i) (Nat.le_of_lt hi)
    have hb3:=Nh hf hB ⟨by omega,hb4⟩ r2 hD hyl ⟨a0,a1⟩ ⟨c0,c1⟩ (n:=i+1) hi
    generalize i / ls.length=t at *
    generalize i % ls.length=k at *
    have ht1:t+1<y.length:=by omega
    have ht0:t<y.length:=by omega
    have ht1i:((t+1:Nat):Int)<((An d+1:Nat):Int):=by omega
    have ht0i:(t:Int)<((An d+1:Nat):Int):=by omega
    obtain ⟨e1,e2',e3',e4,e5,e6⟩:=X0 hf hB (y:=y) ⟨by omega,hb4⟩ r2 ht1 hkL
    have hend:=ok.net.ends k hkL
    have hl1:=hrow ht1
    have hl0':=hrow ht0
    have hp1:∀j,(y.getD (t+1) []).getD j 0=pt y (t+1) j:=fun j=>rfl
    have hp0':∀j,(y.getD t []).getD j 0=pt y t j:=fun j=>rfl
    have q1:=hB (t+1) ht1 (ls.getD k dL).2.1.toNat (by omega)
    have q0:=hB t ht0 (ls.getD k dL).1.toNat (by omega)
    have w5:IntKind.i64.wrap (d.2.2.2.1+(t:Int)-d.2.2.2.1)=(t:Int):=by rw[Ag (by omega) (by omega)];omega
    have w6:IntKind.i64.wrap ((t:Int)+1)=((t+1:Nat):Int):=by rw[Ag (by omega) (by omega)];omega
    have hk1:=QY (ls:=ls) (us:=us) (r:=d.2.2.2.1) (k:=k) (t:=t)
    have hk2:=QZ (ls:=ls) (us:=us) (r:=d.2.2.2.1) (k:=k) (t:=t)
    have hk3:=Q0 (ls:=ls) (us:=us) (r:=d.2.2.2.1) (k:=k) (t:=t)
    have hk4:=LI (ls:=ls) (us:=us) (r:=d.2.2.2.1) (k:=k) (t:=t)
    have hk5:=XZ (ls:=ls) (us:=us) (r:=d.2.2.2.1) (k:=k) (t:=t)
    unfold Wv at hsc e5 e6
    generalize ls.getD k dL=lk at *
    generalize lfM ls us (k:Nat) (d.2.2.2.1+(t:Int))=lf at *
    generalize EC ls (k:Nat) (d.2.2.2.1+(t:Int))=pr at *
    have hto:lk.2.1<((y.getD (t+1) []).length:Int):=by omega
    have hfr:lk.1<((y.getD t []).length:Int):=by omega
    have hto0:0≤lk.2.1:=by omega
    have hfr0:0≤lk.1:=by omega
    have hton:lk.2.1.toNat<(y.getD (t+1) []).length:=by omega
    have hfrn:lk.1.toNat<(y.getD t []).length:=by omega
    have n0:¬id=0:=fun e=>by rw[e,g0]at hlp;cases hlp
    have n1:¬id=1:=fun e=>by rw[e,g1]at hlp;cases hlp
    have n2:¬id=2:=fun e=>by rw[e,g2]at hlp;cases hlp
    have n3:¬id=3:=fun e=>by rw[e,g3]at hlp;cases hlp
    have m0:¬0=id:=fun e=>n0 e.symm
    have m1:¬1=id:=fun e=>n1 e.symm
    have m2:¬2=id:=fun e=>n2 e.symm
    have m3:¬3=id:=fun e=>n3 e.symm
    have o1:¬M6=id:=by omega
    have o2:¬id=M6:=by omega
    have o3:¬0=M6:=by omega
    have o4:¬1=M6:=by omega
    have o5:¬2=M6:=by omega
    have o6:¬3=M6:=by omega
    have o7:¬M6=0:=by omega
    have o8:¬M6=1:=by omega
    simp +contextual (maxSteps:=4000000) only[↓bdD,bdP,Nat.reduceLT,Nat.reduceBEq,Nat.reduceAdd,Nat.reduceLeDiff,reduceCtorEq,Store.new,Store.set,↓reduceIte,CD,ty3,AX,Bf,AZ,B6,Gw,GU,hlp,g0,g1,n1,m0,m1,o1,o2,o3,o4,o7,Fa,Co,w5,w6,hk1,hk2,hk3,hk4,hk5,Cb,hA1,ht1,ht0,ht1i,ht0i,hto,hfr,hto0,hfr0,hton,hfrn,hp1,hp0',A4]
    generalize pt y (t+1) lk.2.1.toNat=p at *
    generalize pt y t lk.1.toNat=q at *
    have v1:IntKind.i64.wrap (IntKind.i64.wrap (p-q)-pr)=p-q-pr:=by rw[Ag (n:=p-q) (by omega) (by omega),Ag (by omega) (by omega)]
    have v2:(if lf<d.2.2.1 then lf else d.2.2.1)=min d.2.2.1 lf:=by split <;> omega
    have v3:(if 0<p-q-pr then p-q-pr else 0)=max 0 (p-q-pr):=by split <;> omega
    intro rb
    rw [v1,v2,v3]
    generalize min d.2.2.1 lf*max 0 (p-q-pr)=z at *
    refine ⟨by omega,by omega,⟨?_,by omega⟩,⟨?_,by omega⟩,?_,by omega⟩
    ·rw [Ag (n:=z) (by omega) (by omega),Ag (by omega) (by omega),hsc]
    ·simp only[Aa]
     rw [if_neg m2,if_neg o5,g2]
    ·simp only[Aa]
     rw [if_neg m3,if_neg o6,g3]
   ·rintro ⟨O6,M6⟩ ⟨_,⟨g1,_⟩,_⟩
    dsimp only at g1
    rw [Kg,hR1]at g1
    simp +contextual (maxSteps:=4000000) only[↓bdD,bdP,Nat.reduceLT,Nat.reduceBEq,Ai,Nat.reduceAdd,↓reduceIte,ty3,g1]
   ·exact fun j st' h=>h.elim
   ·exact fun st' h=>h.elim
theorem Ni:TV:=oS oT
end Sim
namespace Sim
open Go Go.Proofs
attribute [local congr] Ap Aq Al AC As Ar Av
end Sim
namespace Sim
open Go Go.Proofs
attribute [local congr] Ap Aq Al AC As Ar Av
def ovM (hn:Int) (ls:List Lnk) (us:List Snd) (s:Snd):Bool:=decide ((D5 hn ls us s.1 s.2.1).2≠0∨(D5 hn ls us s.1 s.2.1).1<s.2.2)
noncomputable def Nj:(Int)×(List Lnk)×(List Snd)×(Dem)×(Snd)→List PV:=fun (hn,ls,us,d,s) => [GX s,.vptr [I hn,Az ls,AB us,I d.1,I d.2.1,I d.2.2.1,I d.2.2.2.1,I d.2.2.2.2] 0]
noncomputable def oU:(Int)×(List Lnk)×(List Snd)×(Dem)×(Snd)→PV:=fun (hn,ls,us,d,s)=>B (ovM hn ls us s)
def oV:(Int)×(List Lnk)×(List Snd)×(Dem)×(Snd)→Prop:=fun (hn,ls,us,d,s)=>True
noncomputable def e_pos1:Nat×Ent:=(60,.v (Ah Nj oU oV))
theorem Ae6:∀i j,Nj i=Nj j→i=j:=by
 rintro ⟨hn₁,ls₁,us₁,d₁,s₁⟩ ⟨hn₂,ls₂,us₂,d₂,s₂⟩ h
 simp only[Nj,List.cons.injEq,and_true,PV.lits.injEq,PV.int.injEq,PV.agg.injEq,PV.vptr.injEq,true_and,AR,AG]at h
 simp [Prod.ext_iff,h] <;> omega
theorem Ae7 (hn:Int) (ls:List Lnk) (us:List Snd) (d:Dem) (s:Snd):Ah Nj oU oV [GX s,.vptr [I hn,Az ls,AB us,I d.1,I d.2.1,I d.2.2.1,I d.2.2.2.1,I d.2.2.2.2] 0]=some (B (ovM hn ls us s)):=AA Ae6 (i:=(hn,ls,us,d,s)) trivial
def oW:Prop:=∀(hn:Int) (ls:List Lnk) (us:List Snd) (d:Dem) (s:Snd) ,VC Try.prog 60 [GX s,.vptr [I hn,Az ls,AB us,I d.1,I d.2.1,I d.2.2.1,I d.2.2.2.1,I d.2.2.2.2] 0] (B (ovM hn ls us s))
def oX:Prop:=AM Try.prog e_pos1.1 e_pos1.2
theorem Ae8 (c:oW):oX:=At fun⟨hn,ls,us,d,s⟩ h=>c hn ls us d s
theorem Ae9:oW:=by
 intro hn ls us d s
 refine A5 AP (l := [e_left]) ((Ae Adt Ao)) [] []  Try.func60 rfl (by decide +kernel) (N:=26) rfl (by simp) rfl (by kernel_rfl) fun hs=>?_
 simp only[AI,PV.small,List.length_map,and_true,true_and]at hs
 have sp:=Adq (hn:=hn) (ls:=ls) (l:=us) (link:=s.1) (tick:=s.2.1)
 unfold ovM
 generalize (D5 hn ls us s.1 s.2.1).2=e at *
 generalize (D5 hn ls us s.1 s.2.1).1=x at *
 dsimp only[Az,AB]at sp
 by_cases h1:e=0
 ·by_cases h2:x<s.2.2
  ·rw [decide_eq_true (.inr h2)]
   simp +contextual (maxSteps:=4000000) only[↓bdD,bdP,Nat.reduceLT,Nat.reduceBEq,Ai,Nat.reduceAdd,Nat.reduceLeDiff,st0,↓reduceIte,e_left,Ac,Ab,Try.f60,ty3,Aw,AJ,Bk,BU,sp,h1,h2]
  ·rw [decide_eq_false (by omega)]
   simp +contextual (maxSteps:=4000000) only[↓bdD,bdP,Nat.reduceLT,Nat.reduceBEq,Ai,Nat.reduceAdd,Nat.reduceLeDiff,st0,↓reduceIte,e_left,Ac,Ab,Try.f60,ty3,Aw,AJ,Bk,BU,sp,h1,h2]
 ·rw [decide_eq_true (.inl h1)]
  simp +contextual (maxSteps:=4000000) only[↓bdD,bdP,Nat.reduceLT,Nat.reduceBEq,Ai,Nat.reduceAdd,Nat.reduceLeDiff,st0,↓reduceIte,e_left,Ac,Ab,Try.f60,ty3,Aw,AJ,Bk,BU,sp,h1]
theorem Afa:oX:=Ae8 Ae9
def Iu {α:Type} (p:α→Bool) (y:List α):Int:=if y.findIdx p<y.length then (y.findIdx p:Int)else -1
theorem oY {α:Type} {p:α→Bool} {d:α} {y:List α} {k:Nat} (hk:k<y.length) (h:p (y.getD k d)=true) (g:∀j,j<k→p (y.getD j d)=false):Iu p y=k:=by
 have e:y.findIdx p=k:=by
  rw [List.findIdx_eq hk]
  refine ⟨?_,fun j hj=>?_⟩
  ·have : y.getD k d=y[k]:=by simp[hk]
   rw [←this];exact h
  ·have hjl:j<y.length:=by omega
   have : y.getD j d=y[j]:=by simp[hjl]
   rw [←this];exact g j hj
 unfold Iu
 rw [e,if_pos hk]
theorem cF {α:Type} {p:α→Bool} {d:α} {y:List α} (g:∀j,j<y.length→p (y.getD j d)=false):Iu p y = -1:=by
 have e:y.findIdx p=y.length:=by
  rw [List.findIdx_eq_length]
  intro x hx
  obtain ⟨j,hj,rfl⟩:=List.getElem_of_mem hx
  have : y.getD j d=y[j]:=by simp[hj]
  rw [←this];exact g j hj
 unfold Iu
 rw [e,if_neg (by omega)]
theorem oZ {α:Type} {p:α→Bool} {y:List α}:0≤Iu p y↔∃x∈y,p x=true:=by
 rw [←List.findIdx_lt_length]
 unfold Iu
 constructor
 ·intro h
  split at h
  ·assumption
  ·omega
 ·intro h
  rw [if_pos h];omega
noncomputable def Nk:(Int)×(List Lnk)×(List Snd)×(Dem)×(List Snd)→List PV:=fun (hn,ls,us,d,l) => [AB l,.func (.func 60) [] [.vptr [I hn,Az ls,AB us,I d.1,I d.2.1,I d.2.2.1,I d.2.2.2.1,I d.2.2.2.2] 0]]
noncomputable def pA:(Int)×(List Lnk)×(List Snd)×(Dem)×(List Snd)→PV:=fun (hn,ls,us,d,l)=>I (Iu (ovM hn ls us) l)
def pB:(Int)×(List Lnk)×(List Snd)×(Dem)×(List Snd)→Prop:=fun (hn,ls,us,d,l)=>True
noncomputable def e_idxS:Nat×Ent:=(72,.v (Ah Nk pA pB))
theorem Afb:∀i j,Nk i=Nk j→i=j:=by
 rintro ⟨hn₁,ls₁,us₁,d₁,l₁⟩ ⟨hn₂,ls₂,us₂,d₂,l₂⟩ h
 simp only[Nk,List.cons.injEq,and_true,PV.lits.injEq,PV.int.injEq,PV.func.injEq,PV.vptr.injEq,true_and,AR,AG]at h
 simp [Prod.ext_iff,h] <;> omega
theorem pC (hn:Int) (ls:List Lnk) (us:List Snd) (d:Dem) (l:List Snd):Ah Nk pA pB [AB l,.func (.func 60) [] [.vptr [I hn,Az ls,AB us,I d.1,I d.2.1,I d.2.2.1,I d.2.2.2.1,I d.2.2.2.2] 0]]=some (I (Iu (ovM hn ls us) l)):=AA Afb (i:=(hn,ls,us,d,l)) trivial
def pE:Prop:=∀(hn:Int) (ls:List Lnk) (us:List Snd) (d:Dem) (l:List Snd) ,VC Try.prog 72 [AB l,.func (.func 60) [] [.vptr [I hn,Az ls,AB us,I d.1,I d.2.1,I d.2.2.1,I d.2.2.2.1,I d.2.2.2.2] 0]] (I (Iu (ovM hn ls us) l))
def pF:Prop:=AM Try.prog e_idxS.1 e_idxS.2
theorem Afc (c:pE):pF:=At fun⟨hn,ls,us,d,l⟩ h=>c hn ls us d l
theorem Afd:pE:=by
 intro hn ls us d l
 refine A5 AP (l := [e_pos1]) ((Ae Afa Ao)) [] []  Try.func72 rfl (by decide +kernel) (N:=19) rfl (by simp) rfl (by kernel_rfl) fun hs=>?_
 simp only[AI,PV.small,List.length_map,and_true]at hs
 have hsl:=hs.1
 have sp:=fun s=>Ae7 (hn:=hn) (ls:=ls) (us:=us) (d:=d) (s:=s)
 generalize hr:Iu (ovM hn ls us) l=r
 simp +contextual (maxSteps:=4000000) only[↓bdD,bdP,Nat.reduceLT,Nat.reduceBEq,Nat.reduceAdd,st0,↓reduceIte,e_pos1,Try.f72,AJ]
 refine Ax [4,5,8,9,10,11,12,13,14,15,16,17,18] l.length (fun k ρ st'=>ρ 8=I k∧∀j,j<k→ovM hn ls us (l.getD j dS)=false) (.refl _) ?_ ?_
 ·simp +contextual (maxSteps:=4000000) only[↓bdD,bdP]
  exact fun j hj=>absurd hj (by omega)
 rintro k ρ ⟨ob,M⟩ hk ⟨h8,hI⟩
 by_cases hlt:k<l.length
 ·have hwk:IntKind.i64.wrap ((k:Int)+1)=((k+1:Nat):Int):=by rw[Ag (by omega) (by omega)];omega
  have spk:=sp (l.getD k dS)
  dsimp only[GX,Az,AB]at spk
  cases hp:ovM hn ls us (l.getD k dS)
  ·rw [hp]at spk
   simp +contextual (maxSteps:=4000000) only[↓bdD,bdP,Nat.reduceLT,Nat.reduceBEq,Nat.reduceAdd,↓reduceIte,AH,Ac,Ab,AJ,BU,h8,hlt,hwk,spk]
   intro j hj
   by_cases e:j=k
   ·rw [e];exact hp
   ·exact hI j (by omega)
  ·have := oY hlt hp hI
   rw [hr]at this
   rw [hp]at spk
   simp +contextual (maxSteps:=4000000) only[↓bdD,bdP,Nat.reduceLT,Nat.reduceBEq,Ai,Nat.reduceAdd,↓reduceIte,AH,Ac,Ab,AJ,BU,h8,hlt,spk,this]
 ·have e:k=l.length:=by omega
  subst e
  have := cF hI
  rw [hr]at this
  simp +contextual (maxSteps:=4000000) only[↓bdD,bdP,Nat.reduceLT,Nat.reduceBEq,Ai,↓reduceIte,h8,this]
theorem Afe:pF:=Afc Afd
noncomputable def Nl:(Int)×(List Lnk)×(List Snd)×(Dem)×(List Snd)→List PV:=fun (hn,ls,us,d,l) => [AB l,.func (.func 60) [] [.vptr [I hn,Az ls,AB us,I d.1,I d.2.1,I d.2.2.1,I d.2.2.2.1,I d.2.2.2.2] 0]]
noncomputable def pG:(Int)×(List Lnk)×(List Snd)×(Dem)×(List Snd)→PV:=fun (hn,ls,us,d,l)=>B (decide (0≤Iu (ovM hn ls us) l))
def pH:(Int)×(List Lnk)×(List Snd)×(Dem)×(List Snd)→Prop:=fun (hn,ls,us,d,l)=>True
noncomputable def e_cntS:Nat×Ent:=(59,.v (Ah Nl pG pH))
theorem Aff:∀i j,Nl i=Nl j→i=j:=by
 rintro ⟨hn₁,ls₁,us₁,d₁,l₁⟩ ⟨hn₂,ls₂,us₂,d₂,l₂⟩ h
 simp only[Nl,List.cons.injEq,and_true,PV.lits.injEq,PV.int.injEq,PV.func.injEq,PV.vptr.injEq,true_and,AR,AG]at h
 simp [Prod.ext_iff,h] <;> omega
theorem pI (hn:Int) (ls:List Lnk) (us:List Snd) (d:Dem) (l:List Snd):Ah Nl pG pH [AB l,.func (.func 60) [] [.vptr [I hn,Az ls,AB us,I d.1,I d.2.1,I d.2.2.1,I d.2.2.2.1,I d.2.2.2.2] 0]]=some (B (decide (0≤Iu (ovM hn ls us) l))):=AA Aff (i:=(hn,ls,us,d,l)) trivial
def pJ:Prop:=∀(hn:Int) (ls:List Lnk) (us:List Snd) (d:Dem) (l:List Snd) ,VC Try.prog 59 [AB l,.func (.func 60) [] [.vptr [I hn,Az ls,AB us,I d.1,I d.2.1,I d.2.2.1,I d.2.2.2.1,I d.2.2.2.2] 0]] (B (decide (0≤Iu (ovM hn ls us) l)))
def pK:Prop:=AM Try.prog e_cntS.1 e_cntS.2
theorem Afg (c:pJ):pK:=At fun⟨hn,ls,us,d,l⟩ h=>c hn ls us d l
theorem Afh:pJ:=by
 intro hn ls us d y
 refine A5 AP (l := [e_idxS]) ((Ae Afe Ao)) [] []  Try.func59 rfl (by decide +kernel) (N:=9) rfl (by simp) rfl (by kernel_rfl) fun hs=>?_
 simp only[AI,PV.small,List.length_map,and_true]at hs
 by_cases h:0≤Iu (ovM hn ls us) y
 ·simp +contextual (maxSteps:=4000000) only[↓bdD,bdP,Nat.reduceLT,Nat.reduceBEq,Ai,Nat.reduceAdd,st0,↓reduceIte,e_idxS,pC,Ac,Ab,Try.f59,AJ,WR,h]
 ·simp +contextual (maxSteps:=4000000) only[↓bdD,bdP,Nat.reduceLT,Nat.reduceBEq,Ai,Nat.reduceAdd,st0,↓reduceIte,e_idxS,pC,Ac,Ab,Try.f59,AJ,WR,h]
theorem Afi:pK:=Afg Afh
def Ww (hn:Int) (ls:List Lnk) (us l:List Snd) (d:Dem):Prop:=BX hn ls l d=0∧∀i,i<l.length→(l.getD i dS).2.2≤lfM ls us (l.getD i dS).1 (l.getD i dS).2.1
instance {hn:Int} {ls:List Lnk} {us l:List Snd} {d:Dem}:Decidable (Ww hn ls us l d):=inferInstanceAs (Decidable (_∧_))
theorem Afj {hn:Int} {ls:List Lnk} {us l:List Snd} {d:Dem} (hf:Bz hn ls us=0) (h:BX hn ls l d=0):(¬0≤Iu (ovM hn ls us) l)↔∀i,i<l.length→(l.getD i dS).2.2≤lfM ls us (l.getD i dS).1 (l.getD i dS).2.1:=by
 obtain ⟨ok,_⟩:=B8 hf
 have okl:=(serves_iff.1 h).ok
 have hrz:=right_zero.2 ok
 have key:∀i,i<l.length→D5 hn ls us (l.getD i dS).1 (l.getD i dS).2.1=(lfM ls us (l.getD i dS).1 (l.getD i dS).2.1,0):=fun i hi=>by
  have e1:=okl.link i hi
  have e2:=okl.tick i hi
  unfold D5
  rw [if_neg (fun g=>g hrz),if_neg (by omega)];rfl
 rw [oZ]
 constructor
 ·intro g i hi
  refine Classical.byContradiction fun c=>g ⟨l.getD i dS,?_,?_⟩
  ·rw [List.getD_eq_getElem?_getD,List.getElem?_eq_getElem hi];exact List.getElem_mem _
  ·unfold ovM
   rw [key i hi,decide_eq_true_eq]
   exact .inr (by dsimp only;omega)
 ·rintro g ⟨x,hx,hp⟩
  obtain ⟨i,hi,rfl⟩:=List.getElem_of_mem hx
  have e:l.getD i dS=l[i]:=by simp[hi]
  have := g i hi
  have k:=key i hi
  rw [e]at this k
  unfold ovM at hp
  rw [k,decide_eq_true_eq]at hp
  dsimp only at hp
  omega
noncomputable def Nm:(Int)×(List Lnk)×(List Snd)×(Dem)×(List Snd)→List PV:=fun (hn,ls,us,d,l) => [.agg [I hn,Az ls,AB us,I d.1,I d.2.1,I d.2.2.1,I d.2.2.2.1,I d.2.2.2.2],AB l]
noncomputable def pL:(Int)×(List Lnk)×(List Snd)×(Dem)×(List Snd)→PV:=fun (hn,ls,us,d,l)=>B (decide (Ww hn ls us l d))
def pM:(Int)×(List Lnk)×(List Snd)×(Dem)×(List Snd)→Prop:=fun (hn,ls,us,d,l)=>Bz hn ls us=0
noncomputable def e_ppos:Nat×Ent:=(40,.v (Ah Nm pL pM))
theorem Afk:∀i j,Nm i=Nm j→i=j:=by
 rintro ⟨hn₁,ls₁,us₁,d₁,l₁⟩ ⟨hn₂,ls₂,us₂,d₂,l₂⟩ h
 simp only[Nm,List.cons.injEq,and_true,PV.lits.injEq,PV.int.injEq,PV.agg.injEq,true_and,AR,AG]at h
 simp [Prod.ext_iff,h] <;> omega
theorem Wx (hn:Int) (ls:List Lnk) (us:List Snd) (d:Dem) (l:List Snd):Ah Nm pL pM [.agg [I hn,Az ls,AB us,I d.1,I d.2.1,I d.2.2.1,I d.2.2.2.1,I d.2.2.2.2],AB l]=@ite (Option (PV)) (Bz hn ls us=0) (Classical.propDecidable _) (some (B (decide (Ww hn ls us l d)))) none:=BV Afk (hn,ls,us,d,l)
def pN:Prop:=∀(hn:Int) (ls:List Lnk) (us:List Snd) (d:Dem) (l:List Snd) (h:Bz hn ls us=0) ,VC Try.prog 40 [.agg [I hn,Az ls,AB us,I d.1,I d.2.1,I d.2.2.1,I d.2.2.2.1,I d.2.2.2.2],AB l] (B (decide (Ww hn ls us l d)))
def pO:Prop:=AM Try.prog e_ppos.1 e_ppos.2
theorem Afl (c:pN):pO:=At fun⟨hn,ls,us,d,l⟩ h=>c hn ls us d l h
theorem Afm:pN:=by
 intro hn ls us d l hf
 refine A5 AP (l := [e_serves,e_cntS]) ((Ae mN (Ae Afi Ao))) [] []  Try.func40 rfl (by decide +kernel) (N:=16) rfl (by simp) rfl (by kernel_rfl) fun hs=>?_
 simp only[AI,PV.small,List.length_map,and_true,true_and]at hs
 have sp:=mK (hn:=hn) (ls:=ls) (l:=l) (d:=d)
 dsimp only[Az,AB,Cr]at sp
 by_cases h:BX hn ls l d=0
 ·have hov:=Afj (us:=us) hf h
  rw [h]at sp
  by_cases c:0≤Iu (ovM hn ls us) l
  ·rw [decide_eq_false (fun g=>(hov.2 g.2) c)]
   simp +contextual (maxSteps:=4000000) only[↓bdD,bdP,Nat.reduceLT,Nat.reduceBEq,Ai,Nat.reduceEqDiff,Nat.reduceAdd,Nat.reduceLeDiff,st0,↓reduceIte,e_serves,e_cntS,pI,Ac,Ab,Try.f40,Aw,AJ,AX,Bk,WR,sp,c]
  ·rw [decide_eq_true ⟨h,hov.1 c⟩]
   simp +contextual (maxSteps:=4000000) only[↓bdD,bdP,Nat.reduceLT,Nat.reduceBEq,Ai,Nat.reduceEqDiff,Nat.reduceAdd,Nat.reduceLeDiff,st0,↓reduceIte,e_serves,e_cntS,pI,Ac,Ab,Try.f40,Aw,AJ,AX,Bk,WR,sp,c]
 ·rw [decide_eq_false (fun g=>h g.1)]
  generalize BX hn ls l d=r at *
  simp +contextual (maxSteps:=4000000) only[↓bdD,bdP,Nat.reduceLT,Nat.reduceBEq,Ai,Nat.reduceAdd,Nat.reduceLeDiff,st0,↓reduceIte,e_serves,e_cntS,Ac,Ab,Try.f40,Aw,AJ,AX,Bk,sp,h]
theorem Afn:pO:=Afl Afm
end Sim
namespace Sim
open Go Go.Proofs
attribute [local congr] Ap Aq Al AC As Ar Av
def Q1 (hn:Int) (ls:List Lnk) (us:List Snd) (d:Dem) (l:List Snd) (y:List (List Int)):Prop:=D4 hn ls us d y=0∧Ww hn ls us l d∧FW hn ls l≤GC hn ls us d y
instance {hn:Int} {ls:List Lnk} {us:List Snd} {d:Dem} {l:List Snd} {y:List (List Int)}:Decidable (Q1 hn ls us d l y):=inferInstanceAs (Decidable (_∧_))
theorem X1 {hn:Int} {ls:List Lnk} {us:List Snd} {d:Dem} {y:List (List Int)} (h:D4 hn ls us d y=0):CH hn ls us d=0∧shE hn d y=0:=by
 unfold D4 at h
 split at h
 ·contradiction
 ·rename_i c;exact⟨Classical.not_not.1 c,h⟩
noncomputable def F8:(Int)×(List Lnk)×(List Snd)×(Dem)×(List Snd)×(List (List Int))→List PV:=fun (hn,ls,us,d,l,y) => [.agg [I hn,Az ls,AB us,I d.1,I d.2.1,I d.2.2.1,I d.2.2.2.1,I d.2.2.2.2],AB l,DK y]
noncomputable def Pg:(Int)×(List Lnk)×(List Snd)×(Dem)×(List Snd)×(List (List Int))→PV:=fun (hn,ls,us,d,l,y)=>B (decide (Q1 hn ls us d l y))
def Ph:(Int)×(List Lnk)×(List Snd)×(Dem)×(List Snd)×(List (List Int))→Prop:=fun (hn,ls,us,d,l,y)=>True
noncomputable def e_paccept:Nat×Ent:=(17,.v (Ah F8 Pg Ph))
theorem cG:∀i j,F8 i=F8 j→i=j:=by
 rintro ⟨hn₁,ls₁,us₁,d₁,l₁,y₁⟩ ⟨hn₂,ls₂,us₂,d₂,l₂,y₂⟩ h
 simp only[F8,List.cons.injEq,and_true,PV.lits.injEq,PV.int.injEq,PV.agg.injEq,true_and,AR,AG,HL]at h
 simp [Prod.ext_iff,h] <;> omega
theorem Ij (hn:Int) (ls:List Lnk) (us:List Snd) (d:Dem) (l:List Snd) (y:List (List Int)):Ah F8 Pg Ph [.agg [I hn,Az ls,AB us,I d.1,I d.2.1,I d.2.2.1,I d.2.2.2.1,I d.2.2.2.2],AB l,DK y]=some (B (decide (Q1 hn ls us d l y))):=AA cG (i:=(hn,ls,us,d,l,y)) trivial
def Pi:Prop:=∀(hn:Int) (ls:List Lnk) (us:List Snd) (d:Dem) (l:List Snd) (y:List (List Int)) ,VC Try.prog 17 [.agg [I hn,Az ls,AB us,I d.1,I d.2.1,I d.2.2.1,I d.2.2.2.1,I d.2.2.2.2],AB l,DK y] (B (decide (Q1 hn ls us d l y)))
def Pj:Prop:=AM Try.prog e_paccept.1 e_paccept.2
theorem cH (c:Pi):Pj:=At fun⟨hn,ls,us,d,l,y⟩ h=>c hn ls us d l y
theorem cI:Pi:=by
 intro hn ls us d l y
 refine A5 AP (l := [e_pbound,e_ppos,e_cost]) ((Ae Ni (Ae Afn (Ae Ado Ao)))) [] []  Try.func17 rfl (by decide +kernel) (N:=38) rfl (by simp) rfl (by kernel_rfl) fun hs=>?_
 simp only[AI,PV.small,List.length_map,and_true,true_and]at hs
 have sp:=Ev (hn:=hn) (ls:=ls) (us:=us) (d:=d) (y:=y)
 have sq:=Adl (hn:=hn) (ls:=ls) (l:=l)
 dsimp only[Az,AB,Cr,DK]at sp sq
 by_cases h:D4 hn ls us d y=0
 case neg =>
  rw [decide_eq_false (fun g=>h g.1)]
  generalize D4 hn ls us d y=r at *
  simp +contextual (maxSteps:=4000000) only[↓bdD,bdP,Nat.reduceLT,Nat.reduceBEq,Ai,Nat.reduceAdd,st0,↓reduceIte,e_pbound,e_ppos,e_cost,Ac,Ab,BT,Try.f17,Bk,Bf,sp,h]
 have hf:=(CC (pck_zero.1 (X1 h).1).1).1
 rw [h]at sp
 by_cases c:Ww hn ls us l d
 case neg =>
  rw [decide_eq_false (fun g=>c g.2.1)]
  simp +contextual (maxSteps:=4000000) only[↓bdD,bdP,Nat.reduceLT,Nat.reduceBEq,Ai,Nat.reduceEqDiff,Nat.reduceAdd,st0,↓reduceIte,e_pbound,e_ppos,Wx,e_cost,Ac,Ab,BT,Try.f17,AJ,Bk,Bf,sp,hf,c]
 have hz:=right_zero.2 (serves_iff.1 c.1).ok
 rw [hz]at sq
 by_cases e:FW hn ls l≤GC hn ls us d y
 ·rw [decide_eq_true ⟨h,c,e⟩]
  simp +contextual (maxSteps:=4000000) only[↓bdD,bdP,Nat.reduceLT,Nat.reduceBEq,Ai,Nat.reduceEqDiff,Nat.reduceAdd,Nat.reduceLeDiff,st0,↓reduceIte,e_pbound,e_ppos,Wx,e_cost,Ac,Ab,BT,Try.f17,Aw,AJ,Bk,Bf,sp,sq,hf,c,e]
 ·rw [decide_eq_false (fun g=>e g.2.2)]
  simp +contextual (maxSteps:=4000000) only[↓bdD,bdP,Nat.reduceLT,Nat.reduceBEq,Ai,Nat.reduceEqDiff,Nat.reduceAdd,Nat.reduceLeDiff,st0,↓reduceIte,e_pbound,e_ppos,Wx,e_cost,Ac,Ab,BT,Try.f17,Aw,AJ,Bk,Bf,sp,sq,hf,c,e]
theorem cJ:Pj:=cH cI
end Sim
