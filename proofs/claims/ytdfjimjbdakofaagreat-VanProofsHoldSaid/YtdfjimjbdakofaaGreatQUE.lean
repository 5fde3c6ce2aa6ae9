/- What functions of this seat compute, by values: contracts (lemmas of the statement's proof, under the conditions that each names). -/
import Derived.Test.YtdfjimjbdakofaaGreatQXC
import Derived.Test.YtdfjimjbdakofaaGreatQUP
set_option maxRecDepth 10000
set_option maxHeartbeats 4000000
set_option linter.unusedVariables false
set_option linter.unusedSimpArgs false
namespace Sim
open Go Go.Proofs
attribute [local congr] Ai Aj Af At Am Al Aq
theorem Adr {hn:Int} {d:Dem} {y:List (List Int)} (h:shA hn d y) {t:Nat} (ht:t<y.length):((y.getD t []).length:Int)=hn :=
 h.2 _ (by rw[List.getD_eq_getElem?_getD,List.getElem?_eq_getElem ht];exact List.getElem_mem _)
noncomputable def F6:Int×List Lnk×List Snd×Dem×List (List Int)→List PV:=fun (hn,ls,us,d,y) => [.agg [I hn,AQ ls,Ay us,I d.1,I d.2.1,I d.2.2.1,I d.2.2.2.1,I d.2.2.2.2],E4 y]
noncomputable def LO:Int×List Lnk×List Snd×Dem×List (List Int)→PV:=fun (hn,ls,us,d,y)=>.tuple [I (HM hn ls us d y),I (HL hn ls us d y)]
noncomputable def e_pbound:Nat×Ent:=(33,.v (Ap F6 LO AY))
theorem vI:∀i j,F6 i=F6 j→i=j:=by
 rintro ⟨_,_,_,_,_⟩ ⟨_,_,_,_,_⟩ h
 simp only[F6,List.cons.injEq,and_true,PV.lits.injEq,PV.int.injEq,PV.agg.injEq,true_and,AF,AD,Lz]at h
 simp [Prod.ext_iff,h] <;> omega
theorem PC (hn:Int) (ls:List Lnk) (us:List Snd) (d:Dem) (y:List (List Int)):Ap F6 LO AY [.agg [I hn,AQ ls,Ay us,I d.1,I d.2.1,I d.2.2.1,I d.2.2.2.1,I d.2.2.2.2],E4 y]=some (.tuple [I (HM hn ls us d y),I (HL hn ls us d y)]):=AC vI (i:=(hn,ls,us,d,y)) trivial
def vJ:Prop:=∀(hn:Int) (ls:List Lnk) (us:List Snd) (d:Dem) (y:List (List Int)) ,VC Tryz.prog 33 (F6 (hn,ls,us,d,y)) (LO (hn,ls,us,d,y))
theorem vK:vJ:=by
 intro hn ls us d y
 dsimp only[F6,LO]
 refine XG AP (l := [e_pcheck,e_cntR,e_mnR,e_mxR,e_runs]) ((Ad Ly (Ad Ajt (Ad Amq (Ad Amu (Ad Yr Au)))))) [] [] 0 1 Tryz.func33 rfl (by decide +kernel) (N:=144) rfl (by simp) rfl (by kernel_rfl) fun hs=>?_
 simp only[AK,PV.small,List.length_map,and_true,true_and]at hs
 generalize hR1:HM hn ls us d y=R1
 generalize hR2:HL hn ls us d y=R2
 unfold HM at hR1
 rw [hR2]at hR1
 unfold HL at hR2
 by_cases h1:D9 hn ls us d=0
 case neg =>
  rw [if_pos h1]at hR2
  have e1:R1=0:=by rw[←hR1,if_pos (by rw[←hR2];exact h1)]
  have h2:¬R2=0:=by rw[←hR2];exact h1
  simp only[↓bdD,bdP,seval,Ao,e_pcheck,Cu,e_cntR,e_mnR,e_mxR,e_runs,Ac,Aa,Tryz.f33,BF,h2,hR2,e1]
 rw [if_neg (fun g=>g h1)]at hR2
 obtain ⟨hfk,hb4⟩:=pck_zero.1 h1
 obtain ⟨hf,hdm,hD,hdu⟩:=BK hfk
 obtain ⟨⟨a0,a1⟩,⟨c0,c1⟩,hr⟩:=BZ hdm
 obtain ⟨ok,_⟩:=Ce hf
 have hlen:=ok.net.len
 obtain ⟨r0,r1,r2,r3,r4⟩:=hr
 have w1:IntKind.i64.wrap (d.2.2.2.2-d.2.2.2.1)=(As d:Int):=by rw[Ah (by omega) (by omega)];omega
 have w2:IntKind.i64.wrap ((As d:Int)+1)=((As d+1:Nat):Int):=by rw[Ah (by omega) (by omega)];omega
 unfold shE at hR2
 by_cases hA:shA hn d y
 case neg =>
  rw [if_pos hA]at hR2
  subst hR2
  have e1:R1=0:=by rw[←hR1,if_pos (by decide)]
  by_cases hA1:(y.length:Int)=((As d+1:Nat):Int)
  ·have hA2:0≤LK hn y:=fnd_iff.2 fun g=>hA ⟨by rw[hA1];omega,g⟩
   simp only[↓bdD,bdP,seval,Ao,Store.new,Store.set,e_pcheck,Cu,e_cntR,vA,e_mnR,e_mxR,e_runs,Ac,Aa,Du,Tryz.f33,ty3,AX,BF,BL,Y2,h1,w1,w2,hA1,hA2,e1]
  ·simp only[↓bdD,bdP,seval,Ao,Store.new,Store.set,e_pcheck,Cu,e_cntR,e_mnR,e_mxR,e_runs,Ac,Aa,Tryz.f33,ty3,AX,BF,BL,h1,w1,w2,hA1,e1]
 have hA1:(y.length:Int)=((As d+1:Nat):Int):=by rw[hA.1];omega
 have hA2:¬0≤LK hn y:=fun g=>fnd_iff.1 g hA.2
 rw [if_neg (fun g=>g hA)]at hR2
 have hyl:y.length=As d+1:=by omega
 have hsm:=fun t=>iR (k:=t) hs.2.2
 have hrow:=fun {t:Nat} (ht:t<y.length)=>Adr hA ht
 have htn:(hn.toNat:Int)=hn:=by omega
 simp only[↓bdD,bdP,seval,Store.new,Store.set,e_pcheck,Cu,e_cntR,vA,e_mnR,e_mxR,e_runs,Ac,Aa,Du,Tryz.f33,ty3,AX,BF,BL,Y2,h1,w1,w2,hA1,hA2]
 refine Aw [4,5,9,39,40,41,42,43,44,45,46,47,48,49,50,51] y.length (fun k ρ st'=>ρ 39=I k∧(∀t,t<k→∀j,j<hn.toNat→0≤pt y t j∧pt y t j≤536870912)∧(st'.obj 0=some (.arr 0 5 [.agg [I d.1,I d.2.1,I d.2.2.1,I d.2.2.2.1,I d.2.2.2.2]])∧st'.next=1∧WF st')) (.refl _) ?_ ?_
 ·simp only[↓bdD,bdP]
  refine ⟨fun t ht=>absurd ht (by omega),fun i o hi=>?_⟩
  simp only[Ab]at hi
  dsimp only
  by_cases e:i=0
  ·omega
  ·simp [e]at hi
 rintro k ρ ⟨O,M⟩ hk ⟨h39,hI,o0,hM,hwf⟩
 dsimp only at o0 hM
 subst hM
 by_cases hlt:k<y.length
 ·have hwk:IntKind.i64.wrap ((k:Int)+1)=((k+1:Nat):Int):=by rw[Ah (by omega) (by omega)];omega
  have hki:(k:Int)<((As d+1:Nat):Int):=by omega
  have hl:=hrow hlt
  have hpt:∀j,(y.getD k []).getD j 0=pt y k j:=fun j=>rfl
  generalize hyk:y.getD k []=l at *
  have hne:l ≠ []:=fun e=>by rw[e]at hl;simp at hl;omega
  have hln:l.length=hn.toNat:=by omega
  have hmn:=vC (l:=l) (b:=0) (Nat.le_refl _) (by omega)
  have hmx:=vD (l:=l) (b:=536870912) (Nat.le_refl _) (by omega)
  by_cases m1:mnT l l.length<0
  ·have hB:¬shB hn y:=fun g=>by
    have := hmn.2 fun j hj=>by rw[hpt];exact (g k hlt j (by omega)).1
    omega
   rw [if_pos hB]at hR2
   subst hR2
   have e1:R1=0:=by rw[←hR1,if_pos (by decide)]
   simp only[↓bdD,bdP,seval,Ao,vB,CW,AS,BL,h39,hlt,hki,hA1,hyk,hne,m1,e1]
  ·by_cases m2:536870912<mxT l l.length
   ·have hB:¬shB hn y:=fun g=>by
     have := hmx.2 fun j hj=>by rw[hpt];exact (g k hlt j (by omega)).2
     omega
    rw [if_pos hB]at hR2
    subst hR2
    have e1:R1=0:=by rw[←hR1,if_pos (by decide)]
    simp only[↓bdD,bdP,seval,Ao,vB,Af5,CW,AS,BL,h39,hlt,hki,hA1,hyk,hne,m1,m2,e1]
   ·simp only[↓bdD,bdP,seval,vB,Af5,CW,AS,BL,h39,hlt,hki,hwk,hA1,hyk,hne,m1,m2]
    refine ⟨fun t ht j hj=>?_,o0,hwf⟩
    by_cases e:t=k
    ·subst e
     have h1:=hmn.1 (by omega) j (by omega)
     have h2:=hmx.1 (by omega) j (by omega)
     rw [hpt]at h1 h2
     exact ⟨h1,h2⟩
    ·exact hI t (by omega) j hj
 ·have e:k=y.length:=by omega
  subst e
  have hB:shB hn y:=hI
  rw [if_neg (fun g=>g hB)]at hR2
  simp only[↓bdD,bdP,seval,h39,hA1]
  refine Aw [4,5,10,11,12,52,53,54,55,56,57,58,59,60,61,62,63,64,65,66,67,68,69,70,71,72,73,74,75,76,77,78] (y.length-1) (fun t ρ st'=>ρ 10=I ((t+1:Nat):Int)∧(∀s,s<t→∀j,j<hn.toNat→pt y (s+1) j≤pt y s j)∧(st'.obj 0=some (.arr 0 5 [.agg [I d.1,I d.2.1,I d.2.2.1,I d.2.2.2.1,I d.2.2.2.2]])∧st'.next=1∧WF st')) (.refl _) ?_ ?_
  ·simp only[↓bdD,bdP]
   exact ⟨fun t ht=>absurd ht (by omega),o0,hwf⟩
  rintro t ρ2 ⟨O2,M2⟩ ht ⟨h10,hI2,o02,hM2,hwf2⟩
  dsimp only at o02 hM2
  subst hM2
  by_cases hltt:t<y.length-1
  ·have ht1:t+1<y.length:=by omega
   have ht0:t<y.length:=by omega
   have ht1i:((t+1:Nat):Int)<((As d+1:Nat):Int):=by omega
   have ht0i:(t:Int)<((As d+1:Nat):Int):=by omega
   have wt1:IntKind.i64.wrap (((t+1:Nat):Int)+1)=((t+1+1:Nat):Int):=by rw[Ah (by omega) (by omega)];omega
   have wt0:IntKind.i64.wrap (((t+1:Nat):Int)-1)=(t:Int):=by rw[Ah (by omega) (by omega)];omega
   have hl1:=hrow ht1
   have hl0:=hrow ht0
   have hs0:=hsm t
   have hp1:∀j,(y.getD (t+1) []).getD j 0=pt y (t+1) j:=fun j=>rfl
   have hp0:∀j,(y.getD t []).getD j 0=pt y t j:=fun j=>rfl
   generalize hy1:y.getD (t+1) []=l1 at *
   generalize hy0:y.getD t []=l0 at *
   simp only[↓bdD,bdP,seval,CW,AS,BL,h10,hA1,ht1,ht1i,hy1]
   refine Aw [4,5,11,12,63,64,65,66,67,68,69,70,71,72,73,74,75,76,77,78] l1.length (fun j ρ st'=>ρ 63=I j∧(∀i,i<j→pt y (t+1) i≤pt y t i)∧(st'.obj 0=some (.arr 0 5 [.agg [I d.1,I d.2.1,I d.2.2.1,I d.2.2.2.1,I d.2.2.2.2]])∧st'.next=1∧WF st')) (.refl _) ?_ ?_
   ·simp only[↓bdD,bdP]
    exact ⟨fun t ht=>absurd ht (by omega),o02,hwf2⟩
   rintro j ρ3 ⟨O3,M3⟩ hj ⟨h63,hI3,o03,hM3,hwf3⟩
   dsimp only at o03 hM3
   subst hM3
   by_cases hltj:j<l1.length
   ·have hltj0:j<l0.length:=by omega
    have wj:IntKind.i64.wrap ((j:Int)+1)=((j+1:Nat):Int):=by rw[Ah (by omega) (by omega)];omega
    by_cases c:pt y t j<pt y (t+1) j
    ·have hC:¬shC hn y:=fun g=>by have:=g t hltt j (by omega);omega
     rw [if_pos hC]at hR2
     subst hR2
     have e1:R1=0:=by rw[←hR1,if_pos (by decide)]
     simp only[↓bdD,bdP,seval,Ao,CW,ty3,AS,BL,h63,h10,hltj,hltj0,ht0,ht0i,hA1,wt0,hy0,hp1,hp0,c,e1]
    ·simp only[↓bdD,bdP,seval,CW,ty3,AS,BL,h63,h10,hltj,hltj0,ht0,ht0i,hA1,wt0,wj,hy0,hp1,hp0,c]
     refine ⟨fun i hi=>?_,o03,hwf3⟩
     by_cases e:i=j
     ·subst e;omega
     ·exact hI3 i (by omega)
   ·have e:j=l1.length:=by omega
    subst e
    simp only[↓bdD,bdP,seval,h63,h10,wt1]
    refine ⟨hltt,?_,fun s hs j hj=>?_,o03,hwf3⟩
    ·rw [AL (by decide +kernel)]
     simp only[↓bdD,bdP,Nat.reduceBEq]
    ·by_cases e:s=t
     ·subst e;exact hI3 j (by omega)
     ·exact hI2 s (by omega) j hj
  ·have e:t=y.length-1:=by omega
   subst e
   have hC:shC hn y:=hI2
   rw [if_neg (fun g=>g hC)]at hR2
   subst hR2
   rw [if_neg (fun g=>g rfl)]at hR1
   have e2:y.length-1=As d:=by omega
   have e3:y.length-1+1=As d+1:=by omega
   rw [e3]at h10
   have hDl:As d<y.length:=by omega
   have h0l:0<y.length:=by omega
   have hDi:(As d:Int)<((As d+1:Nat):Int):=by omega
   have h0i:(0:Int)<((As d+1:Nat):Int):=by omega
   obtain ⟨fa,hfa⟩:∃u,d.1.toNat=u:=⟨_,rfl⟩
   obtain ⟨fc,hfc⟩:∃u,d.2.1.toNat=u:=⟨_,rfl⟩
   have hf1:d.1=(fa:Int):=by omega
   have hf2:d.2.1=(fc:Int):=by omega
   have hlD:=hrow hDl
   have hl0:=hrow h0l
   have hpD:∀j,(y.getD (As d) []).getD j 0=pt y (As d) j:=fun j=>rfl
   have hp0:∀j,(y.getD 0 []).getD j 0=pt y 0 j:=fun j=>rfl
   have bD:=hB (As d) hDl fc (by omega)
   have b0:=hB 0 h0l fa (by omega)
   have hfa1:fa<(y.getD 0 []).length:=by omega
   have hfc1:fc<(y.getD (As d) []).length:=by omega
   have hfai:d.1<((y.getD 0 []).length:Int):=by omega
   have hfci:d.2.1<((y.getD (As d) []).length:Int):=by omega
   have w3:IntKind.i64.wrap (pt y (As d) fc-pt y 0 fa)=pt y (As d) fc-pt y 0 fa:=Ah (by omega) (by omega)
   have hbI0:KA ls us d y 0=d.2.2.1*(pt y (As d) fc-pt y 0 fa):=by unfold KA;rw[hfa,hfc,An,Int.sub_zero]
   have hb1:=LN hf hB ⟨by omega,hb4⟩ r2 hD hyl ⟨a0,a1⟩ ⟨c0,c1⟩ (n:=0) (Nat.zero_le _)
   rw [hbI0]at hb1
   have w4:IntKind.i64.wrap (d.2.2.1*(pt y (As d) fc-pt y 0 fa))=KA ls us d y 0:=by rw[hbI0,Ah (by omega) (by omega)]
   obtain ⟨O4,hO4⟩:∃O4:Nat→Option IObj,Ab O2 1 (some (.arr 0 1 [I (KA ls us d y 0)]))=O4:=⟨_,rfl⟩
   have hw4:WF ⟨O4,2⟩:=fun i o hi=>by
    dsimp only at hi ⊢
    rw [←hO4]at hi
    simp only[Ab]at hi
    split at hi
    ·omega
    ·have := hwf2 i o hi
     dsimp only at this
     omega
   have sp:=SU ⟨hn,ls,us,d⟩ (st:=⟨O4,2⟩) hf
   simp only[DF]at sp
   simp only[↓bdD,bdP,seval,Store.new,Store.set,Ac,Aa,CW,ty3,AX,AS,BF,BL,h10,hA1,w1,w3,w4,hfa,hfc,a0,c0,hfai,hfci,hDl,h0l,hDi,h0i,hfa1,hfc1,hpD,hp0,o02,Av,hO4,sp]
   have b0:rnO O4 2 us 0=some (.arr 0 5 [.agg [I d.1,I d.2.1,I d.2.2.1,I d.2.2.2.1,I d.2.2.2.2]]):=by simp[rnO,←hO4,Ab,o02]
   have b1:rnO O4 2 us 1=some (.arr 0 1 [I (KA ls us d y 0)]):=by simp[rnO,←hO4,Ab]
   have b2:rnO O4 2 us 2=some (.map 0 (.ints 2) (us.map tkE)):=by simp[rnO]
   have b3:rnO O4 2 us 3=some (.arr 0 1 [.mref 2 0]):=by simp[rnO]
   generalize rnO O4 2 us=O5 at *
   have hyr:=Ys (hn:=hn) (M:=2) (D:=As d) hf hdu r2 r4
   refine Ht (ys:=Lu ls us d.2.2.2.1 (As d)) (f:=85) (first := []) (captured := [frP hn ls us d,.ptr 3 0 0 0]) rfl rfl (A7 rfl) ?_ hyr rfl ?_ (by kernel_rfl) (by kernel_rfl)
    (fun i st'=>(st'.obj 0=some (.arr 0 5 [.agg [I d.1,I d.2.1,I d.2.2.1,I d.2.2.2.1,I d.2.2.2.2]])∧0<st'.next)∧(st'.obj 1=some (.arr 0 1 [I (KA ls us d y i)])∧1<st'.next)∧(st'.obj 2=some (.map 0 (.ints 2) (us.map tkE))∧2<st'.next)∧(st'.obj 3=some (.arr 0 1 [.mref 2 0])∧3<st'.next)) (fun e st'=>False) ?_ ?_ ?_ ?_ ?_ ?_ ?_ ?_
   ·simp only[↓bdD,bdP]
   ·exact Py
   ·exact fun i=>.and (.obj fun _=>by simp) (.and (.obj fun _=>by simp) (.and (.obj fun _=>by simp) (.obj fun _=>by simp)))
   ·exact fun e=>Stays.const
   ·exact ⟨⟨b0,by simp⟩,⟨b1,by simp⟩,⟨b2,by simp⟩,⟨b3,by simp⟩⟩
   ·exact fun i st' h=>⟨h.2.2.1.1,h.2.2.2.1⟩
   ·rintro i v ⟨O6,M6⟩ id lr hv hid hlp ⟨⟨g0,_⟩,⟨g1,_⟩,⟨g2,_⟩,⟨g3,hM6⟩⟩
    obtain ⟨hi,rfl⟩:=Tg hv
    dsimp only at hid hlp g0 g1 g2 g3 hM6
    obtain ⟨htD,hkL⟩:=TN.idx_lt (i:=i) hi
    have hsc:=jD (ls:=ls) (us:=us) (d:=d) (y:=y) (n:=i)
    have hb2:=LN hf hB ⟨by omega,hb4⟩ r2 hD hyl ⟨a0,a1⟩ ⟨c0,c1⟩ (n:=i) (Nat.le_of_lt hi)
    have hb3:=LN hf hB ⟨by omega,hb4⟩ r2 hD hyl ⟨a0,a1⟩ ⟨c0,c1⟩ (n:=i+1) hi
    generalize i / ls.length=t at *
    generalize i % ls.length=k at *
    have ht1:t+1<y.length:=by omega
    have ht0:t<y.length:=by omega
    have ht1i:((t+1:Nat):Int)<((As d+1:Nat):Int):=by omega
    have ht0i:(t:Int)<((As d+1:Nat):Int):=by omega
    obtain ⟨e1,e2',e3',e4,e5,e6⟩:=ZU hf hB (y:=y) ⟨by omega,hb4⟩ r2 ht1 hkL
    have hend:=ok.net.ends k hkL
    have hl1:=hrow ht1
    have hl0':=hrow ht0
    have hp1:∀j,(y.getD (t+1) []).getD j 0=pt y (t+1) j:=fun j=>rfl
    have hp0':∀j,(y.getD t []).getD j 0=pt y t j:=fun j=>rfl
    have q1:=hB (t+1) ht1 (ls.getD k dL).2.1.toNat (by omega)
    have q0:=hB t ht0 (ls.getD k dL).1.toNat (by omega)
    have w5:IntKind.i64.wrap (d.2.2.2.1+(t:Int)-d.2.2.2.1)=(t:Int):=by rw[Ah (by omega) (by omega)];omega
    have w6:IntKind.i64.wrap ((t:Int)+1)=((t+1:Nat):Int):=by rw[Ah (by omega) (by omega)];omega
    have hk1:=Yz (ls:=ls) (us:=us) (r:=d.2.2.2.1) (k:=k) (t:=t)
    have hk2:=YA (ls:=ls) (us:=us) (r:=d.2.2.2.1) (k:=k) (t:=t)
    have hk3:=YB (ls:=ls) (us:=us) (r:=d.2.2.2.1) (k:=k) (t:=t)
    have hk4:=Tf (ls:=ls) (us:=us) (r:=d.2.2.2.1) (k:=k) (t:=t)
    have hk5:=ZT (ls:=ls) (us:=us) (r:=d.2.2.2.1) (k:=k) (t:=t)
    unfold Yy at hsc e5 e6
    generalize ls.getD k dL=lk at *
    generalize lfM ls us (k:Nat) (d.2.2.2.1+(t:Int))=lf at *
    generalize Df ls (k:Nat) (d.2.2.2.1+(t:Int))=pr at *
    have hto:lk.2.1<((y.getD (t+1) []).length:Int):=by omega
    have hfr:lk.1<((y.getD t []).length:Int):=by omega
    have hto0:0≤lk.2.1:=by omega
    have hfr0:0≤lk.1:=by omega
    have hton:lk.2.1.toNat<(y.getD (t+1) []).length:=by omega
    have hfrn:lk.1.toNat<(y.getD t []).length:=by omega
    have n0:¬id=0:=fun e=>by rw[e,g0]at hlp;cases hlp
    have n1:¬id=1:=fun e=>by rw[e,g1]at hlp;cases hlp
    have n2:¬id=2:=fun e=>by rw[e,g2]at hlp;cases hlp
    have n3:¬id=3:=fun e=>by rw[e,g3]at hlp;cases hlp
    have m0:¬0=id:=fun e=>n0 e.symm
    have m1:¬1=id:=fun e=>n1 e.symm
    have m2:¬2=id:=fun e=>n2 e.symm
    have m3:¬3=id:=fun e=>n3 e.symm
    have o1:¬M6=id:=by omega
    have o2:¬id=M6:=by omega
    have o3:¬0=M6:=by omega
    have o4:¬1=M6:=by omega
    have o5:¬2=M6:=by omega
    have o6:¬3=M6:=by omega
    have o7:¬M6=0:=by omega
    have o8:¬M6=1:=by omega
    simp only[↓bdD,bdP,seval,Store.new,Store.set,CW,ty3,AX,AS,BL,CI,Eg,Fb,hlp,g0,g1,n1,m0,m1,o1,o2,o3,o4,o7,GC,CD,w5,w6,hk1,hk2,hk3,hk4,hk5,Cv,hA1,ht1,ht0,ht1i,ht0i,hto,hfr,hto0,hfr0,hton,hfrn,hp1,hp0',Av]
    generalize pt y (t+1) lk.2.1.toNat=p at *
    generalize pt y t lk.1.toNat=q at *
    have v1:IntKind.i64.wrap (IntKind.i64.wrap (p-q)-pr)=p-q-pr:=by rw[Ah (n:=p-q) (by omega) (by omega),Ah (by omega) (by omega)]
    have v2:(if lf<d.2.2.1 then lf else d.2.2.1)=min d.2.2.1 lf:=by split <;> omega
    have v3:(if 0<p-q-pr then p-q-pr else 0)=max 0 (p-q-pr):=by split <;> omega
    intro rb
    rw [v1,v2,v3]
    generalize min d.2.2.1 lf*max 0 (p-q-pr)=z at *
    refine ⟨by omega,by omega,⟨?_,by omega⟩,⟨?_,by omega⟩,?_,by omega⟩
    ·rw [Ah (n:=z) (by omega) (by omega),Ah (by omega) (by omega),hsc]
    ·simp only[Ab]
     rw [if_neg m2,if_neg o5,g2]
    ·simp only[Ab]
     rw [if_neg m3,if_neg o6,g3]
   ·rintro ⟨O6,M6⟩ ⟨_,⟨g1,_⟩,_⟩
    dsimp only at g1
    rw [Px,hR1]at g1
    simp only[↓bdD,bdP,seval,Ao,ty3,g1]
   ·exact fun j st' h=>h.elim
   ·exact fun st' h=>h.elim
theorem vL:AM Tryz.prog e_pbound.1 e_pbound.2:=Ax fun⟨hn,ls,us,d,y⟩ h=>vK hn ls us d y
def Th (hn:Int) (ls:List Lnk) (us l:List Snd) (d:Dem):Prop:=Ct hn ls l d=0∧∀i,i<l.length→(l.getD i dS).2.2≤lfM ls us (l.getD i dS).1 (l.getD i dS).2.1
instance {hn:Int} {ls:List Lnk} {us l:List Snd} {d:Dem}:Decidable (Th hn ls us l d):=inferInstanceAs (Decidable (_∧_))
def jE (hn:Int) (ls:List Lnk) (us:List Snd) (d:Dem) (l:List Snd) (y:List (List Int)):Prop:=HL hn ls us d y=0∧Th hn ls us l d∧BN hn ls l≤HM hn ls us d y
instance {hn:Int} {ls:List Lnk} {us:List Snd} {d:Dem} {l:List Snd} {y:List (List Int)}:Decidable (jE hn ls us d l y):=inferInstanceAs (Decidable (_∧_))
theorem Ads {hn:Int} {ls:List Lnk} {us:List Snd} {d:Dem} {y:List (List Int)} (h:HL hn ls us d y=0):D9 hn ls us d=0∧shE hn d y=0:=by
 unfold HL at h
 split at h
 ·contradiction
 ·rename_i c;exact⟨Classical.not_not.1 c,h⟩
abbrev tkA (ts:List Int) (x:Int):Int:=ts.getD x.toNat 0
def Adt (hn:Int) (d:Dem) (ts:List Int):Prop:=(ts.length:Int)=hn∧tkA ts d.1≤d.2.2.2.1∧d.2.2.2.2<tkA ts d.2.1
instance {hn:Int} {d:Dem} {ts:List Int}:Decidable (Adt hn d ts):=inferInstanceAs (Decidable (_∧_))
def KB (hn:Int) (ls:List Lnk) (us:List Snd) (d:Dem) (ts:List Int):Int:=if D9 hn ls us d≠0 then D9 hn ls us d else if ¬Adt hn d ts then 1 else 0
def brI (ls:List Lnk) (us:List Snd) (d:Dem) (ts:List Int) (t k:Nat):Int :=
 if tkA ts (ls.getD k dL).1≤d.2.2.2.1+(t:Int)∧d.2.2.2.1+((t+1:Nat):Int)<tkA ts (ls.getD k dL).2.1 then lfM ls us (k:Nat) (d.2.2.2.1+(t:Int))else 0
def KC (ls:List Lnk) (us:List Snd) (d:Dem) (ts:List Int) (n:Nat):Int:=An (fun i=>brI ls us d ts (i / ls.length) (i % ls.length)) n
def MO (hn:Int) (ls:List Lnk) (us:List Snd) (d:Dem) (ts:List Int):Int:=if KB hn ls us d ts≠0 then 0 else KC ls us d ts (As d*ls.length)
section
variable {hn:Int} {ls:List Lnk} {us:List Snd}
theorem Ajy (hf:Cs hn ls us=0) {k:Nat} {t:Int} (hk:k<ls.length):0≤lfM ls us (k:Nat) t∧lfM ls us (k:Nat) t≤1073741824:=by
 obtain ⟨ok,_⟩:=Ce hf
 have q1:=G1 hf (k:=(k:Int)) (t:=t) ⟨by omega,by omega⟩
 have q2:=Gs ok.net (link:=(k:Int)) (tick:=t) (by omega) (by omega)
 unfold lfM
 omega
theorem Adu {d:Dem} {ts:List Int} (hf:Cs hn ls us=0) {t k:Nat} (hk:k<ls.length):0≤brI ls us d ts t k∧brI ls us d ts t k≤1073741824:=by
 have := Ajy hf (t:=d.2.2.2.1+(t:Int)) hk
 unfold brI
 split <;> omega
theorem VQ {d:Dem} {ts:List Int} (hf:Cs hn ls us=0) (hD:As d≤32) {n:Nat} (hn':n≤As d*ls.length):0≤KC ls us d ts n∧KC ls us d ts n≤2061584302080:=by
 obtain ⟨ok,_⟩:=Ce hf
 have hl:=ok.net.len
 have h1:=Pz (f:=fun i=>brI ls us d ts (i / ls.length) (i % ls.length)) (B:=1073741824) (n:=n) fun i hi=>by
  obtain ⟨h1,h2⟩:=TN.idx_lt (i:=i) (Nat.lt_of_lt_of_le hi hn')
  exact Adu hf h2
 have hn2:n≤1920:=Nat.le_trans hn' (Nat.le_trans (Nat.mul_le_mul hD hl) (by decide))
 unfold KC
 omega
end
theorem jF {ls:List Lnk} {us:List Snd} {d:Dem} {ts:List Int} {n:Nat}:KC ls us d ts (n+1)=KC ls us d ts n+brI ls us d ts (n / ls.length) (n % ls.length):=by
 unfold KC
 rw [An]
noncomputable def KD:Int×List Lnk×List Snd×Dem×List Int→List PV:=fun (hn,ls,us,d,ts) => [.agg [I hn,AQ ls,Ay us,I d.1,I d.2.1,I d.2.2.1,I d.2.2.2.1,I d.2.2.2.2],ints ts]
noncomputable def Ti:Int×List Lnk×List Snd×Dem×List Int→PV:=fun (hn,ls,us,d,ts)=>.tuple [I (MO hn ls us d ts),I (KB hn ls us d ts)]
noncomputable def e_pbar:Nat×Ent:=(57,.v (Ap KD Ti AY))
theorem Ajz:∀i j,KD i=KD j→i=j:=by
 rintro ⟨_,_,_,_,_⟩ ⟨_,_,_,_,_⟩ h
 simp only[KD,List.cons.injEq,and_true,PV.lits.injEq,PV.int.injEq,PV.agg.injEq,true_and,B1,AF,AD]at h
 simp [Prod.ext_iff,h] <;> omega
theorem Aj0 (hn:Int) (ls:List Lnk) (us:List Snd) (d:Dem) (ts:List Int):Ap KD Ti AY [.agg [I hn,AQ ls,Ay us,I d.1,I d.2.1,I d.2.2.1,I d.2.2.2.1,I d.2.2.2.2],ints ts]=some (.tuple [I (MO hn ls us d ts),I (KB hn ls us d ts)]):=AC Ajz (i:=(hn,ls,us,d,ts)) trivial
def Aj1:Prop:=∀(hn:Int) (ls:List Lnk) (us:List Snd) (d:Dem) (ts:List Int) ,VC Tryz.prog 57 (KD (hn,ls,us,d,ts)) (Ti (hn,ls,us,d,ts))
theorem Aj2:Aj1:=by
 intro hn ls us d ts
 dsimp only[KD,Ti]
 refine XG AP (l := [e_pcheck,e_runs]) ((Ad Ly (Ad Yr Au))) [] [] 0 1 Tryz.func57 rfl (by decide +kernel) (N:=75) rfl (by simp) rfl (by kernel_rfl) fun hs=>?_
 simp only[AK,PV.small,List.length_map,and_true,true_and]at hs
 generalize hR1:MO hn ls us d ts=R1
 generalize hR2:KB hn ls us d ts=R2
 unfold MO at hR1
 rw [hR2]at hR1
 unfold KB at hR2
 by_cases h1:D9 hn ls us d=0
 case neg =>
  rw [if_pos h1]at hR2
  have e1:R1=0:=by rw[←hR1,if_pos (by rw[←hR2];exact h1)]
  have h2:¬R2=0:=by rw[←hR2];exact h1
  simp only[↓bdD,bdP,seval,Ao,e_pcheck,Cu,e_runs,Ac,Aa,Tryz.f57,BF,h2,hR2,e1]
 rw [if_neg (fun g=>g h1)]at hR2
 obtain ⟨hfk,hb4⟩:=pck_zero.1 h1
 obtain ⟨hf,hdm,hD,hdu⟩:=BK hfk
 obtain ⟨⟨a0,a1⟩,⟨c0,c1⟩,hr⟩:=BZ hdm
 obtain ⟨ok,_⟩:=Ce hf
 have hlen:=ok.net.len
 obtain ⟨r0,r1,r2,r3,r4⟩:=hr
 by_cases hA1:(ts.length:Int)=hn
 case neg =>
  rw [if_pos (fun g=>hA1 g.1)]at hR2
  subst hR2
  have e1:R1=0:=by rw[←hR1,if_pos (by decide)]
  simp only[↓bdD,bdP,seval,Ao,e_pcheck,Cu,e_runs,Ac,Aa,Tryz.f57,ty3,AI,AS,BF,h1,hA1,e1]
 have hai:d.1<(ts.length:Int):=by omega
 have hci:d.2.1<(ts.length:Int):=by omega
 have han:d.1.toNat<ts.length:=by omega
 have hcn:d.2.1.toNat<ts.length:=by omega
 have hpA:ts.getD d.1.toNat 0=tkA ts d.1:=rfl
 have hpC:ts.getD d.2.1.toNat 0=tkA ts d.2.1:=rfl
 by_cases hA2:d.2.2.2.1<tkA ts d.1
 ·rw [if_pos (fun g=>by have:=g.2.1;omega)]at hR2
  subst hR2
  have e1:R1=0:=by rw[←hR1,if_pos (by decide)]
  simp only[↓bdD,bdP,seval,Ao,e_pcheck,Cu,e_runs,Ac,Aa,Tryz.f57,ty3,AI,AX,AS,BF,h1,hA1,han,a0,a1,hpA,hA2,e1]
 by_cases hA3:tkA ts d.2.1≤d.2.2.2.2
 ·rw [if_pos (fun g=>by have:=g.2.2;omega)]at hR2
  subst hR2
  have e1:R1=0:=by rw[←hR1,if_pos (by decide)]
  simp only[↓bdD,bdP,seval,Ao,e_pcheck,Cu,e_runs,Ac,Aa,Tryz.f57,ty3,AI,AX,AS,BF,h1,hA1,han,hcn,a0,a1,c0,c1,hpA,hpC,hA2,hA3,e1]
 have hP:Adt hn d ts:=⟨hA1,by omega,by omega⟩
 rw [if_neg (fun g=>g hP)]at hR2
 subst hR2
 rw [if_neg (fun g=>g rfl)]at hR1
 have hz:(0:Int)=KC ls us d ts 0:=rfl
 obtain ⟨O4,hO4⟩:∃O4:Nat→Option IObj,Ab (fun i=>if i<0 then some (IObj.arr 0 1 [])else none) 0 (some (.arr 0 1 [I 0]))=O4:=⟨_,rfl⟩
 have hw4:WF ⟨O4,1⟩:=fun i o hi=>by
  dsimp only at hi ⊢
  rw [←hO4]at hi
  simp only[Ab]at hi
  split at hi
  ·omega
  ·simp at hi
 have o40:O4 0=some (.arr 0 1 [I 0]):=by rw[←hO4];simp[Ab]
 have o41:Ab O4 0 (some (.arr 0 1 [I 0]))=O4:=Ji o40
 have sp:=SU ⟨hn,ls,us,d⟩ (st:=⟨O4,1⟩) hf
 simp only[DF]at sp
 simp only[↓bdD,bdP,seval,Store.new,Store.set,e_pcheck,Cu,e_runs,Ac,Aa,Tryz.f57,ty3,AI,AX,AS,BF,h1,hA1,han,hcn,a0,a1,c0,c1,hpA,hpC,hA2,hA3,hO4,o40,o41,sp]
 have b1:rnO O4 1 us 0=some (.arr 0 1 [I (KC ls us d ts 0)]):=by simp[rnO,←hO4,Ab,KC,An]
 have b2:rnO O4 1 us 1=some (.map 0 (.ints 2) (us.map tkE)):=by simp[rnO]
 have b3:rnO O4 1 us 2=some (.arr 0 1 [.mref 1 0]):=by simp[rnO]
 generalize rnO O4 1 us=O5 at *
 have hyr:=Ys (hn:=hn) (M:=1) (D:=As d) hf hdu r2 r4
 refine Ht (ys:=Lu ls us d.2.2.2.1 (As d)) (f:=85) (first := []) (captured := [frP hn ls us d,.ptr 2 0 0 0]) rfl rfl (A7 rfl) ?_ hyr rfl ?_ (by kernel_rfl) (by kernel_rfl)
  (fun i st'=>(st'.obj 0=some (.arr 0 1 [I (KC ls us d ts i)])∧0<st'.next)∧(st'.obj 1=some (.map 0 (.ints 2) (us.map tkE))∧1<st'.next)∧(st'.obj 2=some (.arr 0 1 [.mref 1 0])∧2<st'.next)) (fun e st'=>False) ?_ ?_ ?_ ?_ ?_ ?_ ?_ ?_
 ·simp only[↓bdD,bdP]
 ·exact Py
 ·exact fun i=>.and (.obj fun _=>by simp) (.and (.obj fun _=>by simp) (.obj fun _=>by simp))
 ·exact fun e=>Stays.const
 ·exact ⟨⟨b1,by simp⟩,⟨b2,by simp⟩,⟨b3,by simp⟩⟩
 ·exact fun i st' h=>⟨h.2.1.1,h.2.2.1⟩
 ·rintro i v ⟨O6,M6⟩ id lr hv hid hlp ⟨⟨g1,_⟩,⟨g2,_⟩,⟨g3,hM6⟩⟩
  obtain ⟨hi,rfl⟩:=Tg hv
  dsimp only at hid hlp g1 g2 g3 hM6
  obtain ⟨htD,hkL⟩:=TN.idx_lt (i:=i) hi
  have hsc:=jF (ls:=ls) (us:=us) (d:=d) (ts:=ts) (n:=i)
  have hb2:=VQ (ts:=ts) hf hD (n:=i) (Nat.le_of_lt hi)
  have hb3:=VQ (ts:=ts) hf hD (n:=i+1) hi
  generalize i / ls.length=t at *
  generalize i % ls.length=k at *
  have hend:=ok.net.ends k hkL
  have w6:IntKind.i64.wrap (d.2.2.2.1+(t:Int)+1)=d.2.2.2.1+((t+1:Nat):Int):=by rw[Ah (by omega) (by omega)];omega
  have hk1:=Yz (ls:=ls) (us:=us) (r:=d.2.2.2.1) (k:=k) (t:=t)
  have hk2:=YA (ls:=ls) (us:=us) (r:=d.2.2.2.1) (k:=k) (t:=t)
  have hk3:=YB (ls:=ls) (us:=us) (r:=d.2.2.2.1) (k:=k) (t:=t)
  have hk4:=Tf (ls:=ls) (us:=us) (r:=d.2.2.2.1) (k:=k) (t:=t)
  unfold brI at hsc
  generalize ls.getD k dL=lk at *
  generalize lfM ls us (k:Nat) (d.2.2.2.1+(t:Int))=lf at *
  have hto:lk.2.1<(ts.length:Int):=by omega
  have hfr:lk.1<(ts.length:Int):=by omega
  have hto':lk.2.1<hn:=by omega
  have hfr':lk.1<hn:=by omega
  have hto0:0≤lk.2.1:=by omega
  have hfr0:0≤lk.1:=by omega
  have hton:lk.2.1.toNat<ts.length:=by omega
  have hfrn:lk.1.toNat<ts.length:=by omega
  have hpF:ts.getD lk.1.toNat 0=tkA ts lk.1:=rfl
  have hpT:ts.getD lk.2.1.toNat 0=tkA ts lk.2.1:=rfl
  have n1:¬id=0:=fun e=>by rw[e,g1]at hlp;cases hlp
  have n2:¬id=1:=fun e=>by rw[e,g2]at hlp;cases hlp
  have n3:¬id=2:=fun e=>by rw[e,g3]at hlp;cases hlp
  have m1:¬0=id:=fun e=>n1 e.symm
  have m2:¬1=id:=fun e=>n2 e.symm
  have m3:¬2=id:=fun e=>n3 e.symm
  have o1:¬M6=id:=by omega
  have o2:¬id=M6:=by omega
  have o4:¬0=M6:=by omega
  have o5:¬1=M6:=by omega
  have o6:¬2=M6:=by omega
  have o8:¬M6=0:=by omega
  by_cases x1:tkA ts lk.1≤d.2.2.2.1+(t:Int)
  ·by_cases x2:d.2.2.2.1+((t+1:Nat):Int)<tkA ts lk.2.1
   ·rw [if_pos ⟨x1,x2⟩]at hsc
    have w7:IntKind.i64.wrap (KC ls us d ts i+lf)=KC ls us d ts (i+1):=by rw[hsc,Ah (by omega) (by omega)]
    simp only[↓bdD,bdP,seval,Store.new,Store.set,ty3,AS,CI,Eg,Fb,hlp,g1,n1,m1,o1,o2,o4,o8,GC,CD,w6,w7,hk1,hk2,hk3,hk4,Cv,hA1,hto',hfr',hto0,hfr0,hton,hfrn,hpF,hpT,x1,x2,Av]
    intro rb
    refine ⟨by omega,by omega,⟨?_,by omega⟩,?_,by omega⟩ <;> simp only[Ab]
    ·rw [if_neg m2,if_neg o5,g2]
    ·rw [if_neg m3,if_neg o6,g3]
   ·rw [if_neg (fun g=>x2 g.2),Int.add_zero]at hsc
    simp only[↓bdD,bdP,seval,Store.new,Store.set,ty3,AS,CI,Eg,Fb,hlp,g1,m1,o1,o2,o4,o8,GC,CD,w6,hk1,hk2,hk3,Cv,hA1,hto',hfr',hto0,hfr0,hton,hfrn,hpF,hpT,x1,x2,hsc,Av]
    intro rb
    refine ⟨by omega,by omega,⟨?_,by omega⟩,?_,by omega⟩ <;> simp only[Ab]
    ·rw [if_neg m2,if_neg o5,g2]
    ·rw [if_neg m3,if_neg o6,g3]
  ·rw [if_neg (fun g=>x1 g.1),Int.add_zero]at hsc
   simp only[↓bdD,bdP,seval,Store.new,Store.set,ty3,AS,CI,Eg,Fb,hlp,g1,m1,o1,o2,o4,o8,GC,CD,hk1,hk2,Cv,hA1,hfr',hfr0,hfrn,hpF,x1,hsc,Av]
   intro rb
   refine ⟨by omega,by omega,⟨?_,by omega⟩,?_,by omega⟩ <;> simp only[Ab]
   ·rw [if_neg m2,if_neg o5,g2]
   ·rw [if_neg m3,if_neg o6,g3]
 ·rintro ⟨O6,M6⟩ ⟨⟨g1,_⟩,_⟩
  dsimp only at g1
  rw [Px,hR1]at g1
  simp only[↓bdD,bdP,seval,Ao,ty3,g1]
 ·exact fun j st' h=>h.elim
 ·exact fun st' h=>h.elim
theorem Aj3:AM Tryz.prog e_pbar.1 e_pbar.2:=Ax fun⟨hn,ls,us,d,ts⟩ h=>Aj2 hn ls us d ts
noncomputable def F7:Int×List Lnk×List Snd×Dem×List Int→List PV:=fun (hn,ls,us,d,ts) => [.agg [I hn,AQ ls,Ay us,I d.1,I d.2.1,I d.2.2.1,I d.2.2.2.1,I d.2.2.2.2],ints ts]
noncomputable def LP:Int×List Lnk×List Snd×Dem×List Int→PV:=fun (hn,ls,us,d,ts)=>B (decide (KB hn ls us d ts=0∧MO hn ls us d ts<d.2.2.1))
noncomputable def e_pstops:Nat×Ent:=(32,.v (Ap F7 LP AY))
theorem vM:∀i j,F7 i=F7 j→i=j:=by
 rintro ⟨_,_,_,_,_⟩ ⟨_,_,_,_,_⟩ h
 simp only[F7,List.cons.injEq,and_true,PV.lits.injEq,PV.int.injEq,PV.agg.injEq,true_and,B1,AF,AD]at h
 simp [Prod.ext_iff,h] <;> omega
theorem VS (hn:Int) (ls:List Lnk) (us:List Snd) (d:Dem) (ts:List Int):Ap F7 LP AY [.agg [I hn,AQ ls,Ay us,I d.1,I d.2.1,I d.2.2.1,I d.2.2.2.1,I d.2.2.2.2],ints ts]=some (B (decide (KB hn ls us d ts=0∧MO hn ls us d ts<d.2.2.1))):=AC vM (i:=(hn,ls,us,d,ts)) trivial
def vO:Prop:=∀(hn:Int) (ls:List Lnk) (us:List Snd) (d:Dem) (ts:List Int) ,VC Tryz.prog 32 (F7 (hn,ls,us,d,ts)) (LP (hn,ls,us,d,ts))
theorem vP:vO:=by
 intro hn ls us d ts
 dsimp only[F7,LP]
 refine Bc AP (l := [e_pbar]) ((Ad Aj3 Au)) [] []  Tryz.func32 rfl (by decide +kernel) (N:=22) rfl (by simp) rfl (by kernel_rfl) fun hs=>?_
 simp only[AK,PV.small,List.length_map,and_true,true_and]at hs
 have sp:=Aj0 (hn:=hn) (ls:=ls) (us:=us) (d:=d) (ts:=ts)
 dsimp only[AQ,Ay,ints]at sp
 generalize KB hn ls us d ts=e at *
 generalize MO hn ls us d ts=x at *
 by_cases h:e=0
 ·by_cases c:x<d.2.2.1
  ·rw [decide_eq_true ⟨h,c⟩]
   simp only[↓bdD,bdP,seval,Ao,st0,e_pbar,Ac,Aa,Tryz.f32,ty3,AX,AS,BF,sp,h,c]
  ·rw [decide_eq_false (fun g=>c g.2)]
   simp only[↓bdD,bdP,seval,Ao,st0,e_pbar,Ac,Aa,Tryz.f32,ty3,AX,AS,BF,sp,h,c]
 ·rw [decide_eq_false (fun g=>h g.1)]
  simp only[↓bdD,bdP,seval,Ao,st0,e_pbar,Ac,Aa,Tryz.f32,AS,BF,sp,h]
theorem vQ:AM Tryz.prog e_pstops.1 e_pstops.2:=Ax fun⟨hn,ls,us,d,ts⟩ h=>vP hn ls us d ts
theorem jG:∀n:Nat,n<1001→Cq .and .u64 (n:Int) 4294967295=some (n:Int):=by decide +kernel
theorem jH:∀n:Nat,n<1001→(n:Int).fdiv 4294967296=0:=by decide +kernel
theorem Amv {n:Nat} (h:n<1001):IntKind.u64.wrap (n:Int)=n:=by rw[IntKind.wrap_u64];omega
noncomputable def HN:Nat→List PV:=fun n => [.int .u64 1,.int .u64 n]
noncomputable def NQ:Nat→PV:=fun n=>.tuple [.int .u64 0,.int .u64 n]
def ZV:Nat→Prop:=fun n=>n<1001
noncomputable def e_mul64:Nat×Ent:=(99,.v (Ap HN NQ ZV))
theorem Adv:∀i j,HN i=HN j→i=j:=by
 rintro n₁ n₂ h
 simp only[HN,List.cons.injEq,and_true,PV.int.injEq,true_and]at h
 first | exact h | omega | (simp[Prod.ext_iff,h];done)
theorem Adw (n:Nat):Ap HN NQ ZV [.int .u64 1,.int .u64 n]=@ite (Option (PV)) (n<1001) (Classical.propDecidable _) (some (.tuple [.int .u64 0,.int .u64 n])) none:=Br Adv n
def Adx:Prop:=∀(n:Nat) (h:n<1001) ,VC Tryz.prog 99 (HN n) (NQ n)
theorem Ady:Adx:=by
 intro n hn
 dsimp only[HN,NQ]
 refine Bc AP (l := []) (Au) [] []  Tryz.func99 rfl (by decide +kernel) (N:=51) rfl (by simp) rfl (by kernel_rfl) fun hs=>?_
 simp only[AK,PV.small,and_true]at hs
 have a1:Cq .and .u64 1 4294967295=some 1:=by decide +kernel
 have a0:Cq .and .u64 0 4294967295=some 0:=by decide +kernel
 have an:=jG n hn
 have s1:(1:Int).fdiv 4294967296=0:=by decide +kernel
 have s0:(0:Int).fdiv 4294967296=0:=by decide +kernel
 have sn:=jH n hn
 have wn:=Amv hn
 have w0:IntKind.u64.wrap 0=0:=by decide +kernel
 simp only[↓bdD,bdP,seval,Ao,st0,Tryz.f99,a1,a0,an,s1,s0,sn,wn,w0,Int.one_mul,Int.zero_mul,Int.add_zero]
theorem Adz:AM Tryz.prog e_mul64.1 e_mul64.2:=Ax fun n h=>Ady n h
noncomputable def KE:Nat→List PV:=fun n => [.int .u64 1,.int .u64 n]
noncomputable def Tj:Nat→PV:=fun n=>.tuple [.int .u64 0,.int .u64 n]
def vR:Nat→Prop:=fun n=>n<1001
noncomputable def e_mulU:Nat×Ent:=(86,.v (Ap KE Tj vR))
theorem Aj4:∀i j,KE i=KE j→i=j:=by
 rintro n₁ n₂ h
 simp only[KE,List.cons.injEq,and_true,PV.int.injEq,true_and]at h
 first | exact h | omega | (simp[Prod.ext_iff,h];done)
theorem Aj5 (n:Nat):Ap KE Tj vR [.int .u64 1,.int .u64 n]=@ite (Option (PV)) (n<1001) (Classical.propDecidable _) (some (.tuple [.int .u64 0,.int .u64 n])) none:=Br Aj4 n
def Aj6:Prop:=∀(n:Nat) (h:n<1001) ,VC Tryz.prog 86 (KE n) (Tj n)
theorem Aj7:Aj6:=by
 intro n hn
 dsimp only[KE,Tj]
 refine Bc AP (l := [e_mul64]) ((Ad Adz Au)) [] []  Tryz.func86 rfl (by decide +kernel) (N:=30) rfl (by simp) rfl (by kernel_rfl) fun hs=>?_
 simp only[AK,PV.small,and_true]at hs
 simp only[↓bdD,bdP,seval,Ao,st0,e_mul64,Adw,Tryz.f86,Alw,hn]
theorem Aj8:AM Tryz.prog e_mulU.1 e_mulU.2:=Ax fun n h=>Aj7 n h
def KF (n j:Nat) (v:Int):List PV:=List.replicate j (I v)++List.replicate (n-j) (I 0)
theorem vS {n j:Nat} {v:Int} (h:j≤n):(KF n j v).length=n:=by unfold KF;rw[List.length_append,List.length_replicate,List.length_replicate];omega
theorem MP {n j:Nat} {v:Int}:List.take j (KF n j v)=List.replicate j (I v):=by unfold KF;exact List.take_left' (List.length_replicate ..)
theorem jI {n j q:Nat} {v:Int} (h:j+q≤n) (hq:q≤j):List.take j (KF n j v)++List.take q (List.replicate j (I v))++List.drop (j+q) (KF n j v)=KF n (j+q) v:=by
 have e:List.drop (j+q) (KF n j v)=List.replicate (n-(j+q)) (I 0):=by
  unfold KF
  rw [List.drop_append,List.length_replicate,List.drop_of_length_le (by rw[List.length_replicate];omega),List.nil_append,show j+q-j=q by omega,List.drop_replicate,show n-j-q=n-(j+q) by omega]
 rw [MP,e,List.take_replicate,show min q j=q by omega]
 unfold KF
 rw [List.replicate_append_replicate]
noncomputable def MQ:Int×Nat→List PV:=fun (v,n) => [ints [v],I n]
noncomputable def YC:Int×Nat→List PV:=fun (v,n)=>List.replicate n (I v)
def YD:Int×Nat→Prop:=fun (v,n)=>n<1001
noncomputable def e_rept:Nat×Ent:=(63,.a (1) (Ap MQ YC YD))
theorem Aj9:∀i j,MQ i=MQ j→i=j:=by
 rintro ⟨_,_⟩ ⟨_,_⟩ h
 simp only[MQ,List.cons.injEq,and_true,PV.lits.injEq,PV.int.injEq,true_and,B1]at h
 simp [Prod.ext_iff,h] <;> omega
theorem vT (v:Int) (n:Nat):Ap MQ YC YD [ints [v],I n]=@ite (Option (List PV)) (n<1001) (Classical.propDecidable _) (some (List.replicate n (I v))) none:=Br Aj9 (v,n)
def Aka:Prop:=∀(v:Int) (n:Nat) (h:n<1001) ,VCA Tryz.prog 63 [ints [v],I n] (1) (List.replicate n (I v))
theorem Akb:Aka:=by
 intro v n hn
 refine Nw AP (l := [e_mulU]) ((Ad Aj8 Au)) [] [] 0 0 Tryz.func63 rfl (by decide +kernel) (N:=48) rfl (by simp) rfl (by kernel_rfl) ?_ ?_
 ·intro e he
  rw [List.eq_of_mem_replicate he];rfl
 have hnu:IntKind.u64.wrap (n:Int)=n:=Amv hn
 have h1u:IntKind.u64.wrap 1=1:=by decide +kernel
 have hni:IntKind.i64.wrap (n:Int)=n:=by rw[Ah (by omega) (by omega)]
 have g1:¬(n:Int)<0:=by omega
 have g2:¬(9223372036854775807:Int)<n:=by omega
 have g3:(n:Int)≤4294967296:=by omega
 simp only[↓bdD,bdP,seval,Store.new,Store.set,e_mulU,Aj5,Tryz.f63,ty3,AS,Alv,hnu,h1u,hni,g1,g2,g3,hn,Av]
 obtain ⟨j0,hj0⟩:∃j,(if 1≤n then 1 else n)=j:=⟨_,rfl⟩
 have hj1:j0≤n∧(0<n→0<j0):=by rw[←hj0];split <;> omega
 have hl0:List.take j0 [I v]++List.drop j0 (List.replicate n (I 0))=KF n j0 v:=by
  unfold KF
  rw [List.drop_replicate]
  congr 1
  rw [←hj0]
  split
  ·rfl
  ·rw [show n=0 by omega];rfl
 refine El [8,34,35,36,37,38,39,40,41,42,43,44,45,46] (n-j0) (fun m ρ st'=>∃j,j≤n∧(0<n→0<j)∧m=n-j∧ρ 8=I (j:Nat)∧st'.obj 0=some (.arr 0 1 (KF n j v))∧st'.next=1) (.refl _) ?_ ?_
 ·refine ⟨j0,hj1.1,hj1.2,rfl,?_,?_,rfl⟩
  ·simp only[↓bdD,bdP,hj0]
  ·simp only[↓bdD,bdP,hj0,hl0]
 rintro m ρ ⟨O,M⟩ ⟨j,h1,h2,rfl,h8,o0,hM⟩
 dsimp only at o0 hM
 subst hM
 have hrl:=vS h1 (v:=v)
 by_cases hjn:j<n
 ·have hji:(j:Int)<n:=by omega
  simp only[↓bdD,bdP,seval,Store.set,AS,h8,o0,hji,hrl,h1,Nat.sub_zero,MP]
  obtain ⟨q,hq⟩:∃q,(if j≤n-j then j else n-j)=q:=⟨_,rfl⟩
  have hq1:j+q≤n∧q≤j∧0<q:=by rw[←hq];split <;> omega
  rw [hq]
  repeat (refine And.intro (by omega) ?_)
  refine ⟨n-(j+q),by omega,j+q,hq1.1,fun _=>by omega,rfl,?_,?_⟩
  ·rw [Ah (by omega) (by omega)];omega
  ·rw [←jI hq1.1 hq1.2.1,MP]
 ·have e:j=n:=by omega
  subst e
  have e1:KF j j v=List.replicate j (I v):=by unfold KF;rw[Nat.sub_self];simp
  rw [e1]at o0
  simp only[↓bdD,bdP,seval,Ao,AS,h8,o0]
  exact ⟨0,0,rfl,o0⟩
theorem Akc:AM Tryz.prog e_rept.1 e_rept.2:=Ho fun⟨v,n⟩ h=>Akb v n h
end Sim
namespace Sim
open Go Go.Proofs
namespace TN
theorem wf_stk {T:TN} {D:Nat} (ok:T.OK D) {a c:Nat} (ha:a<T.h) (hc:c<T.h) {f:Nat→Int} {b:Int} (hf:(T.G D a c).Flow f b) {t x:Nat} (ht:t<D) (hx:x<T.h):T.wf f x t=T.stk a b (T.gf f) t x-T.outF (T.gf f) x t:=by
 have val:∀t x,t≤D→x<T.h→(if t<D then T.wf f x t+T.outF (T.gf f) x t else 0)-(if 0<t∧t-1<D then T.wf f x (t-1)+T.inF (T.gf f) x (t-1)else 0)=(if t=0∧a=x then b else 0)-(if D=t∧c=x then b else 0):=fun t x ht hx=>by
  rw [←Ye ok hx,hf.val _ (node_lt ht hx)]
  show (if a=t*T.h+x then b else 0)-(if D*T.h+c=t*T.h+x then b else 0)=_
  have n2:=Gq (t:=t) (t':=D) hx hc
  simp only[src_eq ha hx,n2]
 have key:∀t x,t<D→x<T.h→T.wf f x t+T.outF (T.gf f) x t=T.stk a b (T.gf f) t x:=by
  intro t x ht hx
  induction t with
  | zero =>
   have := val 0 x (by omega) hx
   rw [if_pos ht,if_neg (fun g=>absurd g.1 (by omega)),if_neg (show ¬(D=0∧c=x) from fun g=>by omega)]at this
   simp only[true_and]at this
   rw [stk];omega
  | succ t ih =>
   have ih:=ih (by omega)
   have := val (t+1) x (by omega) hx
   rw [if_pos ht,if_pos ⟨by omega,by omega⟩,if_neg (fun g=>by omega),if_neg (fun g=>by omega),Nat.add_sub_cancel]at this
   rw [stk];omega
 have := key t x ht hx
 omega
end TN
theorem vU {hn:Int} {ls:List Lnk} {us:List Snd} {d:Dem} {bytes:Int} (hf:Cs hn ls us=0) (hd:D7 hn d=true) (hb:0≤bytes) (e:d.1≠d.2.1):∃φ,((AJ hn ls us d).G (As d) d.1.toNat d.2.1.toNat).Pot (flA (BE hn ls us d bytes).1) φ:=by
 obtain ⟨⟨a0,a1⟩,⟨c0,c1⟩,hr⟩:=BZ hd
 have ok:=DB (r:=d.2.2.2.1) (D:=As d) hf
 have ha:d.1.toNat<(AJ hn ls us d).h:=by show d.1.toNat<hn.toNat;omega
 have hc:d.2.1.toNat<(AJ hn ls us d).h:=by show d.2.1.toNat<hn.toNat;omega
 have hpo:=TN.p_ok ok
 have hP:BE hn ls us d bytes=DT (gA (AJ hn ls us d).p (AZ hn ls d)) (gO (AJ hn ls us d).p (AU hn d) (AZ hn ls d)) (List.replicate (AU hn d) 0) (AU hn d) d.1.toNat (As d*hn.toNat+d.2.1.toNat) bytes:=by unfold BE;rw[if_neg e]
 have hs:d.1.toNat<AU hn d:=by
  have := TN.node_lt (T:=AJ hn ls us d) (D:=As d) (t:=0) (by omega) ha
  rw [Nat.zero_mul,Nat.zero_add]at this
  exact this
 have ht:As d*hn.toNat+d.2.1.toNat<AU hn d:=TN.node_lt (T:=AJ hn ls us d) (Nat.le_refl _) hc
 have hst:d.1.toNat≠As d*hn.toNat+d.2.1.toNat:=fun g=>by
  have :=(TN.src_eq (T:=AJ hn ls us d) (t:=As d) ha hc).1 g
  omega
 obtain ⟨g1,g2,g3⟩:=rU (p:=(AJ hn ls us d).p) (n:=AZ hn ls d) (N:=AU hn d) hpo hs ht hst hb
 rw [←hP]at g2
 exact g2
def soM (hn:Int) (ls:List Lnk) (us l:List Snd) (d:Dem) (t x:Nat):Int:=(AJ hn ls us d).stk d.1.toNat d.2.2.1 (gS l d.2.2.2.1) t x-(AJ hn ls us d).outF (gS l d.2.2.2.1) x t
structure PrvH (hn:Int) (ls:List Lnk) (us l:List Snd) (d:Dem) (lam:Nat→Nat→Int):Prop where
 plan : (AJ hn ls us d).Plan (As d) d.1.toNat d.2.1.toNat d.2.2.1 (gS l d.2.2.2.1)
 ok : (AJ hn ls us d).Lam (As d) (gS l d.2.2.2.1) (soM hn ls us l d) lam
 nn : ∀t x,0≤lam t x
 l0 : lam 0 d.1.toNat=0
 le : ∀t x,t≤As d→x<hn.toNat→lam t x≤1000000*((AU hn d:Nat):Int)
theorem MR {hn:Int} {ls:List Lnk} {us:List Snd} {d:Dem} (h:Dt hn ls us d=0) (hb4:d.2.2.1≤4194304):∃lam,PrvH hn ls us (CV hn ls us d) d lam:=by
 obtain ⟨hck,e2,ho⟩:=ER h
 obtain ⟨hf,hd,hD,hdu⟩:=BK hck
 obtain ⟨⟨a0,a1⟩,⟨c0,c1⟩,hr⟩:=BZ hd
 have hr0:=hr.1
 have hr1:=hr.2.1
 have ok:=DB (hn:=hn) (ls:=ls) (us:=us) (r:=d.2.2.2.1) (D:=As d) hf
 have ha:d.1.toNat<(AJ hn ls us d).h:=by show d.1.toNat<hn.toNat;omega
 have hc:d.2.1.toNat<(AJ hn ls us d).h:=by show d.2.1.toNat<hn.toNat;omega
 have P:=EQ (bytes:=d.2.2.1) hf hd (by omega)
 have p:=P.plan
 rw [e2]at p
 have hg:∀k t,k<(AJ hn ls us d).L→t<As d→Ig hn ls us d d.2.2.1 k t=gS (CV hn ls us d) d.2.2.2.1 k t:=fun k t hk ht=>(ho.sent k t hk ht).symm
 have p2:=p.congr hg
 by_cases e:d.1=d.2.1
 ·have hz:∀k t,k<(AJ hn ls us d).L→t<As d→Ig hn ls us d d.2.2.1 k t=0:=fun k t hk ht=>by
   have hP:BE hn ls us d d.2.2.1=(gA (AJ hn ls us d).p (AZ hn ls d),d.2.2.1):=by unfold BE;rw[if_pos e]
   unfold Ig
   rw [hP]
   exact Nq (TN.pair_lt ht (by show _<(AJ hn ls us d).h+(AJ hn ls us d).L;omega))
  refine ⟨fun _ _=>0,p2,⟨fun k hk=>(ok.e k hk).1,fun k hk=>(ok.e k hk).2,fun t k ht hk _=>?_,fun t k ht hk g=>?_,fun _ _ _ _=>Int.le_refl _,fun _ _ _ _ _=>Int.le_refl _⟩,fun _ _=>Int.le_refl _,rfl,fun _ _ _ _=>by omega⟩
  ·have : 0≤(AJ hn ls us d).pr k t:=(ok.pr k t hk ht).1
   omega
  ·rw [←hg k t hk ht,hz k t hk ht]at g
   omega
 ·have hfl:=P.flow e
  rw [e2]at hfl
  have hgf:(AJ hn ls us d).gf (flA (BE hn ls us d d.2.2.1).1)=Ig hn ls us d d.2.2.1:=rfl
  obtain ⟨lam,l1,l2,l3,l4⟩:=TN.lam_ex (T:=AJ hn ls us d) (D:=As d) (a:=d.1.toNat) (c:=d.2.1.toNat) (b:=d.2.2.1) (g:=gS (CV hn ls us d) d.2.2.2.1) ok ha p2 (f:=flA (BE hn ls us d d.2.2.1).1)
   (fun t x ht hx=>by
    rw [TN.wf_stk ok ha hc hfl ht hx,hgf]
    have e1:(AJ hn ls us d).stk d.1.toNat d.2.2.1 (Ig hn ls us d d.2.2.1) t x=(AJ hn ls us d).stk d.1.toNat d.2.2.1 (gS (CV hn ls us d) d.2.2.2.1) t x:=TN.stk_congr fun k t' hk ht'=>hg k t' hk (by omega)
    have e2:(AJ hn ls us d).outF (Ig hn ls us d d.2.2.1) x t=(AJ hn ls us d).outF (gS (CV hn ls us d) d.2.2.2.1) x t:=TN.outF_congr fun k hk=>hg k t hk ht
    rw [e1,e2])
   (fun t k ht hk=>by rw[hgf];exact hg k t hk ht)
   (by omega)
   (vU hf hd (by omega) e)
  exact ⟨lam,p2,l1,l2,l3,l4⟩
end Sim
namespace Sim
open Go Go.Proofs
attribute [local congr] Ai Aj Af At Am Al Aq
structure RX where
 row : Nat
 g : Nat
 i : Nat
 C : Nat
 by_ : Int
 vals : List Int
 ch : Bool
def HO (x:RX):List PV := [.ptr x.row x.g x.i 0,I x.by_,.ptr x.C 0 0 0]
def Jw (x:RX) (st:Store):Prop:=st.obj x.row=some (.arr x.g 1 (x.vals.map (PV.int .i64)))∧x.i<x.vals.length∧st.obj x.C=some (.arr 0 1 [.bool x.ch])∧x.row≠x.C
def Fo (x:RX) (st:Store):PV×Store :=
 if x.by_<x.vals.getD x.i 0 then (.tuple [],⟨Ab (Ab st.obj x.row (some (.arr x.g 1 ((x.vals.set x.i x.by_).map (PV.int .i64))))) x.C (some (.arr 0 1 [.bool true])),st.next⟩)else (.tuple [],st)
noncomputable def e_relax:Nat×Ent:=(65,.x (A8 HO Jw Fo))
theorem Ad0:AM Tryz.prog e_relax.1 e_relax.2:=Ca fun x st hx=>by
 obtain ⟨row,g,i,C,b,vals,ch⟩:=x
 obtain ⟨ob,M⟩:=st
 obtain ⟨h1,h2,h3,h4⟩:=hx
 dsimp only at h1 h2 h3 h4
 simp only[HO]
 have h4':¬row=C:=h4
 have h5:¬C=row:=fun e=>h4 e.symm
 have hset:(vals.set i b).map (PV.int .i64)=(vals.map (PV.int .i64)).set i (I b):=List.map_set
 have hlm:(vals.map (PV.int .i64)).length=vals.length:=List.length_map _
 refine BT AP (l := []) (Au) [] [] 0 Tryz.func65 rfl (by decide +kernel) (N:=13) rfl (by simp) rfl (by kernel_rfl) ?_
 by_cases c:b<vals.getD i 0
 ·simp only[Fo,if_pos c,hset]
  simp only[↓bdD,bdP,seval,Ao,Store.set,Tryz.f65,ty3,ty4,h1,h2,h3,h5,c,hlm]
  exact ⟨_,rfl,Left.refl⟩
 ·simp only[Fo,if_neg c]
  simp only[↓bdD,bdP,seval,Ao,Tryz.f65,ty3,h1,h2,c]
  exact ⟨_,rfl,Left.refl⟩
theorem Ad1 (a b:RX) (st:Store) (h:HO a=HO b) (hx:Jw a st) (hy:Jw b st):Fo a st=Fo b st:=by
 obtain ⟨a1,a2,a3,a4,a5,a6,a7⟩:=a
 obtain ⟨b1,b2,b3,b4,b5,b6,b7⟩:=b
 simp only[HO,List.cons.injEq,PV.ptr.injEq,PV.int.injEq,true_and,and_true]at h
 obtain ⟨⟨rfl,rfl,rfl⟩,rfl,rfl⟩:=h
 obtain ⟨x1,x2,x3,x4⟩:=hx
 obtain ⟨y1,y2,y3,y4⟩:=hy
 dsimp only at x1 x3 y1 y3
 rw [x1]at y1
 simp only[Option.some.injEq,IObj.arr.injEq,true_and]at y1
 rw [B1]at y1
 subst y1
 rfl
theorem ZW (x:RX) {st:Store} (h:Jw x st):A8 HO Jw Fo [.ptr x.row x.g x.i 0,I x.by_,.ptr x.C 0 0 0] st=some (Fo x st):=Ba Ad1 (i:=x) h
def B6 (h:Nat) (f:Nat→Int):List Int:=(List.range h).map f
theorem Dw {h:Nat} {f:Nat→Int}:(B6 h f).length=h:=by simp[B6]
section
variable {h x:Nat} {f:Nat→Int}
theorem HP (hx:x<h):(B6 h f).getD x 0=f x:=by simp[B6,hx]
theorem Ha {v:Int} (hx:x<h):(B6 h f).set x v=B6 h fun z=>if z=x then v else f z:=by
 refine List.ext_getElem (by simp[B6]) fun i h1 h2=>?_
 rw [List.getElem_set]
 simp only[B6,List.getElem_map,List.getElem_range]
 by_cases e:x=i
 ·rw [if_pos e,if_pos e.symm]
 ·rw [if_neg e,if_neg (fun g=>e g.symm)]
theorem LQ {v:Int} (hx:x<h):((B6 h f).map (PV.int .i64)).set x (Bj (nth ((B6 h f).map (PV.int .i64)) x) 0 [I v])=(B6 h fun z=>if z=x then v else f z).map (PV.int .i64):=by
 have e:nth ((B6 h f).map (PV.int .i64)) x=I (f x):=by
  simp [nth,B6,hx]
 rw [e,show Bj (I (f x)) 0 [I v]=I v from rfl,←Ha hx,List.map_set]
theorem Jx (hx:x<h):nth ((B6 h f).map (PV.int .i64)) x=I (f x):=by
 simp [nth,B6,hx]
end
theorem PD {h:Nat} {f g:Nat→Int} (e:∀x,x<h→f x=g x):B6 h f=B6 h g:=by
 unfold B6
 exact List.map_congr_left fun x hx=>e x (List.mem_range.1 hx)
def rwK (f:Nat→Nat) (D h k:Nat):List PV:=(List.range (D+1)).map fun t=>if t<k then .ref (f t) 0 0 h else .nils
section
variable {f:Nat→Nat}
theorem HQ {D h k:Nat}:(rwK f D h k).length=D+1:=by simp[rwK]
theorem Ea {D h k t:Nat} (ht:t≤D) (hk:t<k):nth (rwK f D h k) t=.ref (f t) 0 0 h:=by
 simp [rwK,nth,show t<D+1 by omega,hk]
theorem Ad2 {D h k m:Nat} (hk:k≤D):(rwK f D h k).set k (.ref m 0 0 h)=rwK (fun t=>if t=k then m else f t) D h (k+1):=by
 refine List.ext_getElem (by simp[rwK]) fun i h1 h2=>?_
 rw [List.getElem_set]
 simp only[rwK,List.getElem_map,List.getElem_range]
 by_cases e:k=i
 ·subst e;rw[if_pos rfl,if_pos (by omega),if_pos rfl]
 ·rw [if_neg e]
  by_cases c:i<k
  ·rw [if_pos c,if_pos (by omega),if_neg (fun g=>e g.symm)]
  ·rw [if_neg c,if_neg (by omega)]
theorem Ad3 {D h k:Nat} (hk:k≤D):nth (rwK f D h k) k=.nils:=by
 simp [rwK,nth,show k<D+1 by omega]
theorem VT {D h k m:Nat} (hk:k≤D):Bj (nth (rwK f D h k) k) 0 [PV.ref m 0 0 h]=PV.ref m 0 0 h:=by rw[Ad3 hk];rfl
theorem Af7 {D h:Nat}:rwK f D h 0=List.replicate (D+1) .nils:=by
 refine List.ext_getElem (by simp[rwK]) fun i h1 h2=>by simp[rwK]
end
structure PvK (D h M0 B k:Nat) (sI yI:Nat→Nat) (l:List Snd) (d:Dem) (so Y:Nat→Nat→Int) (O:Nat→Option IObj) (nx:Nat):Prop where
 cS : O 0=some (.arr 1 1 (rwK sI D h k))
 c0 : O 1=some (.arr 0 1 [.ref M0 0 0 (D+1)])
 c1 : O 2=some (.arr 0 5 [.agg [I d.1,I d.2.1,I d.2.2.1,I d.2.2.2.1,I d.2.2.2.2]])
 c2 : O 3=some (.map 0 (.ints 2) (l.map tkE))
 c3 : O 4=some (.arr 0 1 [.mref 3 0])
 cY : O M0=some (.arr 0 1 (rwK yI D h k))
 rS : ∀t,t<k→O (sI t)=some (.arr 0 1 ((B6 h (so t)).map (PV.int .i64)))
 rY : ∀t,t<k→O (yI t)=some (.arr 0 1 ((B6 h (Y t)).map (PV.int .i64)))
 M5 : 5≤M0
 iS : ∀t,t<k→M0<sI t∧sI t<B
 iY : ∀t,t<k→M0<yI t∧yI t<B
 dj : ∀t s,t<k→s<k→sI t≠yI s
 jS : ∀t s,t<k→s<k→sI t=sI s→t=s
 jY : ∀t s,t<k→s<k→yI t=yI s→t=s
 MB : M0<B
 nx : B≤nx
section
variable {D h M0 B k:Nat} {sI yI:Nat→Nat} {l:List Snd} {d:Dem}
theorem PvK.of {so Y:Nat→Nat→Int} {O O':Nat→Option IObj} {nx nx':Nat} (p:PvK D h M0 B k sI yI l d so Y O nx) (hO:∀i,i<B→O' i=O i) (hn:B≤nx'):PvK D h M0 B k sI yI l d so Y O' nx':=by
 obtain ⟨a1,a2,a3,a4,a5,a6,a7,a8,a9,b1,b2,b3,b4,b5,b6,b7⟩:=p
 exact ⟨by rw[hO _ (by omega)];exact a1,by rw[hO _ (by omega)];exact a2,by rw[hO _ (by omega)];exact a3,by rw[hO _ (by omega)];exact a4,by rw[hO _ (by omega)];exact a5,by rw[hO _ (by omega)];exact a6,
  fun t ht=>by rw[hO _ (b1 t ht).2];exact a7 t ht,fun t ht=>by rw[hO _ (b2 t ht).2];exact a8 t ht,a9,b1,b2,b3,b4,b5,b6,hn⟩
theorem PvK.later {so Y:Nat→Nat→Int} {st st':Store} (p:PvK D h M0 B k sI yI l d so Y st.obj st.next) (hL:Later st st'):PvK D h M0 B k sI yI l d so Y st'.obj st'.next:=by
 obtain ⟨a1,a2,a3,a4,a5,a6,a7,a8,a9,b1,b2,b3,b4,b5,b6,b7⟩:=p
 exact ⟨hL.2 _ _ (by omega) a1 (by simp),hL.2 _ _ (by omega) a2 (by simp),hL.2 _ _ (by omega) a3 (by simp),hL.2 _ _ (by omega) a4 (by simp),hL.2 _ _ (by omega) a5 (by simp),hL.2 _ _ (by omega) a6 (by simp),
  fun t ht=>hL.2 _ _ (by have:=(b1 t ht).2;omega) (a7 t ht) (by simp),fun t ht=>hL.2 _ _ (by have:=(b2 t ht).2;omega) (a8 t ht) (by simp),a9,b1,b2,b3,b4,b5,b6,Nat.le_trans b7 hL.1⟩
theorem PvK.so' {so Y:Nat→Nat→Int} {O:Nat→Option IObj} {nx:Nat} (p:PvK D h M0 B k sI yI l d so Y O nx) {t:Nat} (ht:t<k) (f:Nat→Int) :
  PvK D h M0 B k sI yI l d (fun s=>if s=t then f else so s) Y (Ab O (sI t) (some (.arr 0 1 ((B6 h f).map (PV.int .i64))))) nx:=by
 obtain ⟨a1,a2,a3,a4,a5,a6,a7,a8,a9,b1,b2,b3,b4,b5,b6,b7⟩:=p
 have g:=b1 t ht
 refine ⟨?_,?_,?_,?_,?_,?_,fun s hs=>?_,fun s hs=>?_,a9,b1,b2,b3,b4,b5,b6,b7⟩ <;> simp only[Ab]
 ·rw [if_neg (by omega)];exact a1
 ·rw [if_neg (by omega)];exact a2
 ·rw [if_neg (by omega)];exact a3
 ·rw [if_neg (by omega)];exact a4
 ·rw [if_neg (by omega)];exact a5
 ·rw [if_neg (by omega)];exact a6
 ·by_cases e:s=t
  ·subst e;rw[if_pos rfl,if_pos rfl]
  ·rw [if_neg (fun g=>e (b4 s t hs ht g)),if_neg e];exact a7 s hs
 ·rw [if_neg (fun g=>b3 t s ht hs g.symm)];exact a8 s hs
theorem PvK.y' {so Y:Nat→Nat→Int} {O:Nat→Option IObj} {nx:Nat} (p:PvK D h M0 B k sI yI l d so Y O nx) {t:Nat} (ht:t<k) (f:Nat→Int) :
  PvK D h M0 B k sI yI l d so (fun s=>if s=t then f else Y s) (Ab O (yI t) (some (.arr 0 1 ((B6 h f).map (PV.int .i64))))) nx:=by
 obtain ⟨a1,a2,a3,a4,a5,a6,a7,a8,a9,b1,b2,b3,b4,b5,b6,b7⟩:=p
 have g:=b2 t ht
 refine ⟨?_,?_,?_,?_,?_,?_,fun s hs=>?_,fun s hs=>?_,a9,b1,b2,b3,b4,b5,b6,b7⟩ <;> simp only[Ab]
 ·rw [if_neg (by omega)];exact a1
 ·rw [if_neg (by omega)];exact a2
 ·rw [if_neg (by omega)];exact a3
 ·rw [if_neg (by omega)];exact a4
 ·rw [if_neg (by omega)];exact a5
 ·rw [if_neg (by omega)];exact a6
 ·rw [if_neg (fun g=>b3 s t hs ht g)];exact a7 s hs
 ·by_cases e:s=t
  ·subst e;rw[if_pos rfl,if_pos rfl]
  ·rw [if_neg (fun g=>e (b5 s t hs ht g)),if_neg e];exact a8 s hs
theorem PvK.eqY {so Y Y':Nat→Nat→Int} {O:Nat→Option IObj} {nx:Nat} (p:PvK D h M0 B k sI yI l d so Y O nx) (e:∀t x,t<k→x<h→Y t x=Y' t x):PvK D h M0 B k sI yI l d so Y' O nx:=by
 obtain ⟨a1,a2,a3,a4,a5,a6,a7,a8,a9,b1,b2,b3,b4,b5,b6,b7⟩:=p
 exact ⟨a1,a2,a3,a4,a5,a6,a7,fun t ht=>by rw[a8 t ht,PD (fun x hx=>e t x ht hx)],a9,b1,b2,b3,b4,b5,b6,b7⟩
theorem PvK.eqS {so so' Y:Nat→Nat→Int} {O:Nat→Option IObj} {nx:Nat} (p:PvK D h M0 B k sI yI l d so Y O nx) (e:∀t x,t<k→x<h→so t x=so' t x):PvK D h M0 B k sI yI l d so' Y O nx:=by
 obtain ⟨a1,a2,a3,a4,a5,a6,a7,a8,a9,b1,b2,b3,b4,b5,b6,b7⟩:=p
 exact ⟨a1,a2,a3,a4,a5,a6,fun t ht=>by rw[a7 t ht,PD (fun x hx=>e t x ht hx)],a8,a9,b1,b2,b3,b4,b5,b6,b7⟩
end
theorem PvK.rl {D h M0 B k:Nat} {sI yI:Nat→Nat} {l:List Snd} {d:Dem} {so Y:Nat→Nat→Int} {O:Nat→Option IObj} {nx:Nat} (p:PvK D h M0 B k sI yI l d so Y O nx) {C:Nat} {ch:Bool} (hC:O C=some (.arr 0 1 [.bool ch])) (hCB:B≤C) {t x:Nat} (ht:t<k) (hx:x<h) (v:Int) :
  ∃ O',A8 HO Jw Fo [.ptr (yI t) 0 x 0,I v,.ptr C 0 0 0] ⟨O,nx⟩=some (.tuple [],⟨O',nx⟩)∧PvK D h M0 B k sI yI l d so (YS.rl ⟨Y,ch⟩ t x v).y O' nx∧O' C=some (.arr 0 1 [.bool (YS.rl ⟨Y,ch⟩ t x v).ch])∧∀i,i≠C→(∀s,s<k→i≠yI s)→O' i=O i:=by
 have hyB:=(p.iY t ht).2
 have hne:yI t≠C:=by omega
 have key:=ZW ⟨yI t,0,x,C,v,B6 h (Y t),ch⟩ (st:=⟨O,nx⟩) ⟨p.rY t ht,by dsimp only;rw[Dw];exact hx,hC,hne⟩
 dsimp only at key
 rw [key]
 unfold Fo
 dsimp only
 rw [HP hx]
 by_cases c:v<Y t x
 ·rw [if_pos c,Ha hx]
  have e:YS.rl ⟨Y,ch⟩ t x v=⟨fun t' x'=>if t'=t∧x'=x then v else Y t' x',true⟩:=by unfold YS.rl;exact if_pos c
  rw [e]
  refine ⟨_,rfl,?_,by simp[Ab],fun i hiC hi=>by simp only[Ab];rw[if_neg hiC,if_neg (hi t ht)]⟩
  have q:=(p.y' ht fun z=>if z=x then v else Y t z).eqY (Y':=fun t' x'=>if t'=t∧x'=x then v else Y t' x') fun s z hs hz=>by
   by_cases e:s=t
   ·subst e;rw[if_pos rfl];simp
   ·rw [if_neg e,if_neg (fun g=>e g.1)]
  exact q.of (fun i hi=>by simp only[Ab];rw[if_neg (by omega)]) q.nx
 ·rw [if_neg c]
  have e:YS.rl ⟨Y,ch⟩ t x v=⟨Y,ch⟩:=by unfold YS.rl;exact if_neg c
  rw [e]
  exact ⟨O,rfl,p,hC,fun _ _ _=>rfl⟩
theorem WF.upd {O:Nat→Option IObj} {nx nx' i:Nat} (h:WF ⟨O,nx⟩) (hi:i<nx') (hn:nx≤nx') {x:Option IObj}:WF ⟨Ab O i x,nx'⟩:=fun j o hj=>by
 dsimp only at hj ⊢
 simp only[Ab]at hj
 split at hj
 ·omega
 ·have := h j o hj
  dsimp only at this
  omega
structure PvM (d:Dem) (es:List (PV×PV)) (S:Store):Prop where
 b0 : S.obj 0=some (.arr 0 1 [])
 b1 : S.obj 1=some (.arr 0 1 [.nils])
 b2 : S.obj 2=some (.arr 0 5 [.agg [I d.1,I d.2.1,I d.2.2.1,I d.2.2.2.1,I d.2.2.2.2]])
 b3 : S.obj 3=some (.map 0 (.ints 2) es)
 b4 : S.obj 4=some (.arr 0 1 [.mref 3 0])
 nx : 5≤S.next
 wf : WF S
theorem PvM.step {d:Dem} {es es':List (PV×PV)} {O:Nat→Option IObj} {nx:Nat} (h:PvM d es ⟨O,nx⟩) {x:Option IObj}:PvM d es' ⟨Ab (Ab O nx x) 3 (some (.map 0 (.ints 2) es')),nx+1⟩:=by
 obtain ⟨h0,h1,h2,h3,h4,h5,h6⟩:=h
 dsimp only at *
 refine ⟨?_,?_,?_,?_,?_,by dsimp only;omega,WF.upd (nx:=nx+1) (i:=3) (WF.upd (nx:=nx) (nx':=nx+1) (i:=nx) h6 (by omega) (by omega)) (by omega) (by omega)⟩ <;> simp only[Ab]
 ·rw [if_neg (by omega),if_neg (by omega)];exact h0
 ·rw [if_neg (by omega),if_neg (by omega)];exact h1
 ·rw [if_neg (by omega),if_neg (by omega)];exact h2
 ·rw [if_pos trivial]
 ·rw [if_neg (by omega),if_neg (by omega)];exact h4
theorem HR {h:Nat} {v:Int}:(B6 h fun _=>v).map (PV.int .i64)=List.replicate h (I v):=by
 unfold B6
 rw [List.map_map]
 refine List.ext_getElem (by simp) fun i h1 h2=>by simp
theorem PvK.add {D h M0 k:Nat} {sI yI:Nat→Nat} {l:List Snd} {d:Dem} {so Y:Nat→Nat→Int} {O O':Nat→Option IObj} {nx:Nat} (p:PvK D h M0 nx k sI yI l d so Y O nx) (hk:k≤D) {a b:Nat} (hab:a≠b) (ha:nx≤a∧a<nx+2) (hb:nx≤b∧b<nx+2)
  (h0 : O' 0=some (.arr 1 1 ((rwK sI D h k).set k (.ref a 0 0 h)))) (hM:O' M0=some (.arr 0 1 ((rwK yI D h k).set k (.ref b 0 0 h)))) (hra:O' a=some (.arr 0 1 ((B6 h (so k)).map (PV.int .i64)))) (hrb:O' b=some (.arr 0 1 ((B6 h (Y k)).map (PV.int .i64))))
  (hr : ∀i,i<nx→i≠0→i≠M0→O' i=O i):PvK D h M0 (nx+2) (k+1) (fun t=>if t=k then a else sI t) (fun t=>if t=k then b else yI t) l d so Y O' (nx+2):=by
 obtain ⟨a1,a2,a3,a4,a5,a6,a7,a8,a9,b1,b2,b3,b4,b5,b6,b7⟩:=p
 rw [Ad2 hk]at h0 hM
 refine ⟨h0,?_,?_,?_,?_,hM,fun t ht=>?_,fun t ht=>?_,a9,fun t ht=>?_,fun t ht=>?_,fun t s ht hs=>?_,fun t s ht hs=>?_,fun t s ht hs=>?_,by omega,Nat.le_refl _⟩
 ·rw [hr _ (by omega) (by omega) (by omega)];exact a2
 ·rw [hr _ (by omega) (by omega) (by omega)];exact a3
 ·rw [hr _ (by omega) (by omega) (by omega)];exact a4
 ·rw [hr _ (by omega) (by omega) (by omega)];exact a5
 ·by_cases e:t=k
  ·rw [if_pos e,e];exact hra
  ·rw [if_neg e]
   have := b1 t (by omega)
   rw [hr _ this.2 (by omega) (by omega)];exact a7 t (by omega)
 ·by_cases e:t=k
  ·rw [if_pos e,e];exact hrb
  ·rw [if_neg e]
   have := b2 t (by omega)
   rw [hr _ this.2 (by omega) (by omega)];exact a8 t (by omega)
 ·by_cases e:t=k
  ·rw [if_pos e];omega
  ·rw [if_neg e];have:=b1 t (by omega);omega
 ·by_cases e:t=k
  ·rw [if_pos e];omega
  ·rw [if_neg e];have:=b2 t (by omega);omega
 ·by_cases e:t=k
  ·rw [if_pos e]
   by_cases e2:s=k
   ·rw [if_pos e2];exact hab
   ·rw [if_neg e2];have:=b2 s (by omega);omega
  ·rw [if_neg e]
   by_cases e2:s=k
   ·rw [if_pos e2];have:=b1 t (by omega);omega
   ·rw [if_neg e2];exact b3 t s (by omega) (by omega)
 ·by_cases e:t=k
  ·rw [if_pos e]
   by_cases e2:s=k
   ·intro _;rw[e,e2]
   ·rw [if_neg e2];have:=b1 s (by omega);intro g;omega
  ·rw [if_neg e]
   by_cases e2:s=k
   ·rw [if_pos e2];have:=b1 t (by omega);intro g;omega
   ·rw [if_neg e2];exact b4 t s (by omega) (by omega)
 ·by_cases e:t=k
  ·rw [if_pos e]
   by_cases e2:s=k
   ·intro _;rw[e,e2]
   ·rw [if_neg e2];have:=b2 s (by omega);intro g;omega
  ·rw [if_neg e]
   by_cases e2:s=k
   ·rw [if_pos e2];have:=b2 t (by omega);intro g;omega
   ·rw [if_neg e2];exact b5 t s (by omega) (by omega)
theorem vV {l m:List Int} (p:l.Perm m):l.sum=m.sum:=by
 induction p with
 | nil=>rfl
 | cons x _ ih=>rw[List.sum_cons,List.sum_cons,ih]
 | swap x y l=>rw[List.sum_cons,List.sum_cons,List.sum_cons,List.sum_cons];omega
 | trans _ _ h1 h2=>rw[h1,h2]
theorem VU {f:Nat→Int}:∀ {n:Nat} {seen:List Nat},seen.Nodup→(∀i∈seen,i<n)→seen.length=n→(seen.map f).sum=An f n
 | 0,seen,_,_,h3=>by
  rw [List.eq_nil_of_length_eq_zero h3];rfl
 | n+1,seen,h1,h2,h3=>by
  have hn:n∈seen:=Classical.byContradiction fun c=>by
   have := Dh n seen h1 fun i hi=>by
    have := h2 i hi
    have : i≠n:=fun e=>c (e▸hi)
    omega
   omega
  obtain ⟨p,q,rfl⟩:=List.append_of_mem hn
  have hp:(p++n::q).Perm (n::(p++q)):=List.perm_middle
  have hnd:=hp.nodup_iff.1 h1
  rw [List.nodup_cons]at hnd
  rw [vV (hp.map f),List.map_cons,List.sum_cons,An,VU (n:=n) hnd.2 (fun i hi=>by
   have := h2 i (hp.mem_iff.2 (List.mem_cons_of_mem _ hi))
   have : i≠n:=fun e=>hnd.1 (e▸hi)
   omega) (by simp at h3 ⊢;omega)]
  omega
def jJ (ls:List Lnk) (l:List Snd) (t x:Int) (i:Nat):Int:=if (l.getD i dS).2.1=t∧(Bd ls (l.getD i dS)).1=x then (l.getD i dS).2.2 else 0
def soS (ls:List Lnk) (l:List Snd) (d:Dem) (seen:List Nat) (t x:Nat):Int:=Bh ls l d (x:Int) (d.2.2.2.1+(t:Int))-(seen.map (jJ ls l (d.2.2.2.1+(t:Int)) (x:Int))).sum
theorem Ad4 {hn:Int} {ls:List Lnk} {us l:List Snd} {d:Dem} (ok:OKr hn ls l) (hd:0≤d.1) (h0:∀i,i<l.length→d.2.2.2.1≤(l.getD i dS).2.1) {seen:List Nat} (h1:seen.Nodup) (h2:∀i∈seen,i<l.length) (h3:seen.length=l.length) (t x:Nat):soS ls l d seen t x=soM hn ls us l d t x:=by
 unfold soS soM
 rw [VU h1 h2 h3,Lw ok hd h0 x t,ZF ok x t,Pd]
 rfl
theorem Ad5 {ls:List Lnk} {l:List Snd} {d:Dem} {seen:List Nat} {i t x:Nat}:soS ls l d (seen ++ [i]) t x=soS ls l d seen t x-jJ ls l (d.2.2.2.1+(t:Int)) (x:Int) i:=by
 unfold soS
 rw [List.map_append,List.sum_append]
 simp
 omega
theorem ZX {f:Nat→Int} {B:Int}:∀ {seen:List Nat},(∀i∈seen,0≤f i∧f i≤B)→0≤(seen.map f).sum∧(seen.map f).sum≤B*(seen.length:Int)
 | [],_=>by simp
 | i::l,h=>by
  have ih:=ZX (f:=f) (B:=B) (seen:=l) fun j hj=>h j (List.mem_cons_of_mem _ hj)
  have h1:=h i (List.mem_cons_self ..)
  have e:B*((l.length+1:Nat):Int)=B*(l.length:Int)+B:=by rw[show ((l.length+1:Nat):Int)=(l.length:Int)+1 by omega,Int.mul_add,Int.mul_one]
  rw [List.map_cons,List.sum_cons,List.length_cons,e]
  omega
theorem Ad6 {hn:Int} {ls:List Lnk} {l:List Snd} {d:Dem} (ok:OKr hn ls l) (hb:Yj d) {seen:List Nat} (h1:seen.Nodup) (h2:∀i∈seen,i<l.length) (t x:Nat) : -8796093022208≤soS ls l d seen t x∧soS ls l d seen t x≤8796093022208:=by
 have hl:=ok.len
 have a:=Vt hb (x:Int) (d.2.2.2.1+(t:Int))
 have b:=Vs ok (x:Int) (d.2.2.2.1+(t:Int)) l.length (Nat.le_refl _)
 have c:=ZX (f:=jJ ls l (d.2.2.2.1+(t:Int)) (x:Int)) (B:=1073741824) (seen:=seen) fun i hi=>by
  have := ok.bytes i (h2 i hi)
  unfold jJ
  split <;> omega
 have e:=Dh l.length seen h1 h2
 unfold soS Bh
 omega
theorem PvK.lp {D h M0 B k:Nat} {sI yI:Nat→Nat} {l:List Snd} {d:Dem} {so Y:Nat→Nat→Int} {O:Nat→Option IObj} {nx:Nat} (p:PvK D h M0 B k sI yI l d so Y O nx) {id:Nat} {r:Loop} (hid:O id=some (.lp r)) (x:Option IObj):PvK D h M0 B k sI yI l d so Y (Ab O id x) nx:=by
 have key:∀ {j o},O j=some o→(∀r,o≠.lp r)→Ab O id x j=some o:=fun {j o} hj hr=>by
  simp only[Ab]
  rw [if_neg (fun e=>by rw[e,hid]at hj;cases hj;exact hr r rfl),hj]
 obtain ⟨a1,a2,a3,a4,a5,a6,a7,a8,a9,b1,b2,b3,b4,b5,b6,b7⟩:=p
 exact ⟨key a1 (by simp),key a2 (by simp),key a3 (by simp),key a4 (by simp),key a5 (by simp),key a6 (by simp),fun t ht=>key (a7 t ht) (by simp),fun t ht=>key (a8 t ht) (by simp),a9,b1,b2,b3,b4,b5,b6,b7⟩
theorem YE {ls:List Lnk} {us:List Snd} {r:Int} {k t:Nat}:List.take 2 (Io ls us r k t) = [I (k:Nat),I (r+(t:Int))]:=rfl
noncomputable def Ip (hn:Int) (ls:List Lnk) (us:List Snd) (d:Dem):Nat→Nat→Int:=(AJ hn ls us d).prvY (As d) d.1.toNat d.2.1.toNat 536870912 268435456 (gS (CV hn ls us d) d.2.2.2.1) (soM hn ls us (CV hn ls us d) d)
noncomputable def Dk (hn:Int) (ls:List Lnk) (us:List Snd) (d:Dem):List (List Int):=(List.range (As d+1)).map fun t=>B6 hn.toNat fun x=>min (Ip hn ls us d t x) (Ip hn ls us d (As d) d.2.1.toNat)
noncomputable def KG (hn:Int) (ls:List Lnk) (us:List Snd) (d:Dem):Int:=if D9 hn ls us d≠0 then D9 hn ls us d else Dt hn ls us d
end Sim
namespace Sim
open Go Go.Proofs
section
variable {hn:Int} {ls:List Lnk} {us l l2:List Snd} {d:Dem} {y:List (List Int)}
theorem YF (h:HL hn ls us d y=0):D9 hn ls us d=0∧shA hn d y∧shB hn y∧shC hn y:=by
 obtain ⟨h1,h2⟩:=Ads h
 unfold shE at h2
 split at h2
 ·cases h2
 ·rename_i c1
  split at h2
  ·cases h2
  ·rename_i c2
   split at h2
   ·cases h2
   ·rename_i c3
    exact ⟨h1,Classical.not_not.1 c1,Classical.not_not.1 c2,Classical.not_not.1 c3⟩
theorem Akd:KA ls us d y (As d*ls.length)=(AJ hn ls us d).bnd (As d) d.1.toNat d.2.1.toNat d.2.2.1 (pt y):=by
 unfold KA TN.bnd
 rw [Fu]
 congr 1
 refine Ag fun t ht=>Ag fun k hk=>?_
 have hk:k<ls.length:=hk
 obtain ⟨e1,e2⟩:=TN.row_idx (t:=t) hk
 rw [e1,e2]
 rfl
theorem Af8 (h:HL hn ls us d y=0):HM hn ls us d y=(AJ hn ls us d).bnd (As d) d.1.toNat d.2.1.toNat d.2.2.1 (pt y):=by
 unfold HM
 rw [if_neg (fun g=>g h),Akd (hn:=hn)]
theorem VV (hc:DG hn ls us d=0) (h:Th hn ls us l d):(AJ hn ls us d).Plan (As d) d.1.toNat d.2.1.toNat d.2.2.1 (gS l d.2.2.2.1):=by
 obtain ⟨hf,hd,hD,hdu⟩:=BK hc
 have sv:=serves_iff.1 h.1
 exact SY (D:=As d) sv hf h.2 (by rw[←hdu];exact sv.late)
theorem VW (h:Th hn ls us l d):(AJ hn ls us d).cst (As d) (gS l d.2.2.2.1)≤BN hn ls l:=by
 have sv:=serves_iff.1 h.1
 have h2:=Ai4 (r:=d.2.2.2.1) (us:=us) sv.ok (D:=As d)
 have h3:BN hn ls l=Dr ls l l.length:=by unfold BN;rw[if_neg (fun g=>g (right_zero.2 sv.ok))]
 rw [h3]
 exact h2
theorem VX (hf:Cs hn ls us=0):(∀k,k<(AJ hn ls us d).L→(AJ hn ls us d).fr k<(AJ hn ls us d).h)∧∀k,k<(AJ hn ls us d).L→(AJ hn ls us d).to k<(AJ hn ls us d).h:=by
 have ok:=DB (us:=us) (r:=d.2.2.2.1) (D:=As d) hf
 exact ⟨fun k hk=>(ok.e k hk).1,fun k hk=>(ok.e k hk).2⟩
theorem PE (h:HL hn ls us d y=0) (hp:Th hn ls us l d):HM hn ls us d y≤BN hn ls l:=by
 obtain ⟨h1,hA,hB,hC⟩:=YF h
 obtain ⟨hfk,_⟩:=pck_zero.1 h1
 obtain ⟨hf,hd,hD,hdu⟩:=BK hfk
 obtain ⟨⟨a0,a1⟩,⟨c0,c1⟩,hr⟩:=BZ hd
 obtain ⟨hfr,hto⟩:=VX (d:=d) hf
 rw [Af8 h]
 refine Int.le_trans (TN.bnd_le (VV hfk hp) hfr hto (show d.1.toNat<hn.toNat by omega) (show d.2.1.toNat<hn.toNat by omega) fun t x ht hx=>?_) (VW hp)
 have := hA.1
 exact hC t (by omega) x hx
theorem Tk (h:Dt hn ls us d=0):Th hn ls us (CV hn ls us d) d:=by
 obtain ⟨_,_,ho⟩:=ER h
 exact ⟨ho.serves,ho.besides⟩
theorem Tl (hc:DG hn ls us d=0) (hp:Th hn ls us l d):Dt hn ls us d=0∧BN hn ls (CV hn ls us d)≤BN hn ls l:=by
 obtain ⟨hf,hd,hD,hdu⟩:=BK hc
 obtain ⟨_,_,hr⟩:=BZ hd
 have hr0:=hr.1
 have hr1:=hr.2.1
 have p:=VV hc hp
 have h0:Dt hn ls us d=0:=by
  apply Classical.byContradiction
  intro hne
  exact (Pk hc hne).2 _ p
 obtain ⟨_,e2,ho⟩:=ER h0
 have P:=EQ (bytes:=d.2.2.1) hf hd (by omega)
 have h1:=P.best hf hd hr1 p 1 (Int.le_refl _) (by rw[e2];omega)
 rw [Int.one_mul]at h1
 refine ⟨h0,?_⟩
 rw [ho.cost]
 exact Int.le_trans h1 (VW hp)
theorem MS (h:jE hn ls us d l y):(Th hn ls us l2 d→BN hn ls l≤BN hn ls l2)∧Dt hn ls us d=0∧BN hn ls (CV hn ls us d)=BN hn ls l:=by
 obtain ⟨h1,h2,h3⟩:=h
 have hfk:=(pck_zero.1 (YF h1).1).1
 obtain ⟨e,g1⟩:=Tl hfk h2
 have g2:=PE h1 (Tk e)
 exact ⟨fun hp=>Int.le_trans h3 (PE h1 hp),e,by omega⟩
theorem PF:(Dk hn ls us d).length=As d+1:=by unfold Dk;rw[List.length_map,List.length_range]
theorem Ad7 {t:Nat} (ht:t<As d+1):(Dk hn ls us d).getD t []=B6 hn.toNat fun x=>min (Ip hn ls us d t x) (Ip hn ls us d (As d) d.2.1.toNat):=by
 unfold Dk
 rw [List.getD_eq_getElem?_getD,List.getElem?_map,List.getElem?_range ht]
 rfl
theorem HT {t x:Nat} (ht:t<As d+1) (hx:x<hn.toNat):pt (Dk hn ls us d) t x=min (Ip hn ls us d t x) (Ip hn ls us d (As d) d.2.1.toNat):=by
 unfold pt
 rw [Ad7 ht,HP hx]
theorem Ad8 (h:Dt hn ls us d=0) (hb4:d.2.2.1≤4194304) (hN:AU hn d≤268):(AJ hn ls us d).Fix (As d) d.1.toNat d.2.1.toNat d.2.2.1 (gS (CV hn ls us d) d.2.2.2.1) (Ip hn ls us d) 536870912∧(∀t x,t≤As d→x<hn.toNat→0≤Ip hn ls us d t x):=by
 obtain ⟨hck,e2,ho⟩:=ER h
 obtain ⟨hf,hd,hD,hdu⟩:=BK hck
 obtain ⟨⟨a0,a1⟩,⟨c0,c1⟩,hr⟩:=BZ hd
 obtain ⟨lam,PH⟩:=MR h hb4
 have ok:=DB (us:=us) (r:=d.2.2.2.1) (D:=As d) hf
 have hle:=PH.le
 have hch:d.2.1.toNat<hn.toNat:=by omega
 obtain ⟨_,hFix,hnn⟩:=TN.prv_ok (T:=AJ hn ls us d) (D:=As d) (a:=d.1.toNat) (c:=d.2.1.toNat) (b:=d.2.2.1) (mx:=536870912) (far:=268435456) PH.ok PH.nn (by rw[PH.l0];exact Int.le_refl _) (by have:=hle (As d) d.2.1.toNat (Nat.le_refl _) hch;omega) (fun t x ht hx=>by have:=hle t x ht hx;omega) (by decide) (by decide) (fun k t hk ht=>(ok.pr k t hk ht).1) (fun t x ht hx=>rfl) hch
 exact ⟨hFix,hnn⟩
theorem Ad9 (h1:D9 hn ls us d=0) (h:Dt hn ls us d=0) (hN:AU hn d≤268):HL hn ls us d (Dk hn ls us d)=0∧HM hn ls us d (Dk hn ls us d)=BN hn ls (CV hn ls us d)∧jE hn ls us d (CV hn ls us d) (Dk hn ls us d):=by
 obtain ⟨hfk,hb4⟩:=pck_zero.1 h1
 obtain ⟨hck,e2,ho⟩:=ER h
 obtain ⟨hf,hd,hD,hdu⟩:=BK hck
 obtain ⟨⟨a0,a1⟩,⟨c0,c1⟩,hr⟩:=BZ hd
 obtain ⟨oku,_⟩:=Ce hf
 have hhn:=oku.net.houses
 have hr0:=hr.1
 have hr2:=hr.2.2.1
 have hr4:=hr.2.2.2.1
 obtain ⟨hfr,hto⟩:=VX (d:=d) hf
 obtain ⟨F,nn⟩:=Ad8 h hb4 hN
 obtain ⟨lam,PH⟩:=MR h hb4
 have hch:d.2.1.toNat<hn.toNat:=by omega
 have hA:shA hn d (Dk hn ls us d):=by
  refine ⟨by rw[PF];omega,fun r hrm=>?_⟩
  unfold Dk at hrm
  obtain ⟨t,_,rfl⟩:=List.mem_map.1 hrm
  rw [Dw];omega
 have hB:shB hn (Dk hn ls us d):=fun t ht x hx=>by
  rw [PF]at ht
  rw [HT ht hx]
  have n1:=nn t x (by omega) hx
  have n2:=nn (As d) d.2.1.toNat (Nat.le_refl _) hch
  have n3:=F.le t x (by omega) hx
  omega
 have hC:shC hn (Dk hn ls us d):=fun t ht x hx=>by
  rw [PF]at ht
  rw [HT (by omega) hx,HT (by omega) hx]
  have := F.mono t x (by omega) hx
  omega
 have hE:HL hn ls us d (Dk hn ls us d)=0:=by
  unfold HL shE
  rw [if_neg (fun g=>g h1),if_neg (fun g=>g hA),if_neg (fun g=>g hB),if_neg (fun g=>g hC)]
 have tight:=F.tight PH.plan hfr hto
 have heq:=TN.bnd_eq PH.plan hfr hto (show d.1.toNat<hn.toNat by omega) hch (show 0≤d.2.2.1 by omega) tight
 have hb:(AJ hn ls us d).bnd (As d) d.1.toNat d.2.1.toNat d.2.2.1 (pt (Dk hn ls us d))=(AJ hn ls us d).bnd (As d) d.1.toNat d.2.1.toNat d.2.2.1 fun t x=>min (Ip hn ls us d t x) (Ip hn ls us d (As d) d.2.1.toNat):=by
  unfold TN.bnd
  rw [HT (by omega) hch,HT (by omega) (show d.1.toNat<hn.toNat by omega)]
  congr 1
  refine Ag fun t ht=>Ag fun k hk=>?_
  unfold TN.exc
  rw [HT (by omega) (hto k hk),HT (by omega) (hfr k hk)]
 have hM:HM hn ls us d (Dk hn ls us d)=BN hn ls (CV hn ls us d):=by
  rw [Af8 hE,hb,heq,ho.cost]
  exact TN.cst_congr fun k t hk ht=>ho.sent k t hk ht
 exact ⟨hE,hM,hE,Tk h,by rw[hM];exact Int.le_refl _⟩
end
end Sim
namespace Sim
open Go Go.Proofs
attribute [local congr] Ai Aj Af At Am Al Aq
noncomputable def HU:Int×Int×List Lnk×List Snd×Dem→List PV:=fun (s,hn,ls,us,d) => [I s,.agg [I hn,AQ ls,Ay us,I d.1,I d.2.1,I d.2.2.1,I d.2.2.2.1,I d.2.2.2.2]]
noncomputable def NR:Int×Int×List Lnk×List Snd×Dem→PV:=fun (s,hn,ls,us,d)=>.tuple [Ay (CV hn ls us d),B (decide (Dt hn ls us d=0))]
noncomputable def e_find1:Nat×Ent:=(19,.v (Ap HU NR AY))
theorem Aea:∀i j,HU i=HU j→i=j:=by
 rintro ⟨_,_,_,_,_⟩ ⟨_,_,_,_,_⟩ h
 simp only[HU,List.cons.injEq,and_true,PV.lits.injEq,PV.int.injEq,PV.agg.injEq,true_and,AF,AD]at h
 simp [Prod.ext_iff,h] <;> omega
theorem NS (s:Int) (hn:Int) (ls:List Lnk) (us:List Snd) (d:Dem):Ap HU NR AY [I s,.agg [I hn,AQ ls,Ay us,I d.1,I d.2.1,I d.2.2.1,I d.2.2.2.1,I d.2.2.2.2]]=some (.tuple [Ay (CV hn ls us d),B (decide (Dt hn ls us d=0))]):=AC Aea (i:=(s,hn,ls,us,d)) trivial
def Aeb:Prop:=∀(s:Int) (hn:Int) (ls:List Lnk) (us:List Snd) (d:Dem) ,VC Tryz.prog 19 (HU (s,hn,ls,us,d)) (NR (s,hn,ls,us,d))
theorem Aec:Aeb:=by
 intro s hn ls us d
 dsimp only[HU,NR]
 refine Bc AP (l := [e_cheap]) ((Ad ZE Au)) [] []  Tryz.func19 rfl (by decide +kernel) (N:=21) rfl (by simp) rfl (by kernel_rfl) fun hs=>?_
 simp only[AK,PV.small,List.length_map,and_true,true_and]at hs
 have sc:=SV (hn:=hn) (ls:=ls) (us:=us) (d:=d)
 dsimp only[DY]at sc
 by_cases h:Dt hn ls us d=0
 ·simp only[↓bdD,bdP,seval,Ao,st0,e_cheap,Ac,Aa,Tryz.f19,AI,AN,AX,BF,sc,h]
 ·simp only[↓bdD,bdP,seval,Ao,st0,e_cheap,Ac,Aa,Tryz.f19,AI,AN,AX,BF,sc,h]
theorem Aed:AM Tryz.prog e_find1.1 e_find1.2:=Ax fun⟨s,hn,ls,us,d⟩ h=>Aec s hn ls us d
noncomputable def CX (hn:Int) (ls:List Lnk) (us:List Snd) (ts:List Trp) (d:Dem) (s:Nat):Int:=Dt (wHn hn ts) (wLs hn ls ts d s) (wUs ls us ts d s) d
noncomputable def KH (hn:Int) (ls:List Lnk) (us:List Snd) (ts:List Trp) (d:Dem) (s:Nat):List Snd:=CV (wHn hn ts) (wLs hn ls ts d s) (wUs ls us ts d s) d
noncomputable def Tm (hn:Int) (ls:List Lnk) (us:List Snd) (ts:List Trp) (d:Dem) (s:Nat):List Snd:=psS ls.length (KH hn ls us ts d s)
noncomputable def PG (hn:Int) (ls:List Lnk) (us:List Snd) (ts:List Trp) (d:Dem) (s:Nat):List Int:=psO ls.length ts.length (KH hn ls us ts d s)
noncomputable def Fp (hn:Int) (ls:List Lnk) (us:List Snd) (ts:List Trp) (d:Dem) (s:Nat):Int:=Et hn ls us ts d (Tm hn ls us ts d s) (PG hn ls us ts d s)
noncomputable def Ch (hn:Int) (ls:List Lnk) (us:List Snd) (ts:List Trp) (d:Dem):Nat→Int×List Snd×List Int
 | 0=>(-1,[],[])
 | s+1=>if CX hn ls us ts d s=0∧((Ch hn ls us ts d s).1<0∨Fp hn ls us ts d s<(Ch hn ls us ts d s).1)then (Fp hn ls us ts d s,Tm hn ls us ts d s,PG hn ls us ts d s)else Ch hn ls us ts d s
section
variable {hn:Int} {ls:List Lnk}
theorem Aee {ts:List Trp} {d:Dem} {s:Nat}:(wLs hn ls ts d s).length=ls.length+2*ts.length:=by unfold wLs;rw[List.length_append,Js]
theorem ZY {us:List Snd} {ts:List Trp} {d:Dem} {s:Nat} (h:CX hn ls us ts d s=0):Adh ls.length ts.length (KH hn ls us ts d s):=by
 have ok:=(serves_iff.1 (Tk h).1).ok
 refine ⟨ok.smB,fun k hk=>?_⟩
 have := ok.link k hk
 rw [Aee]at this
 exact this
theorem PI {us:List Snd} {ts:List Trp} {d:Dem} {l:List Snd} {o:List Int}:0≤Et hn ls us ts d l o:=by
 unfold Et
 split
 ·rename_i h
  have S:=sch_zero.1 h
  have hc:BN hn ls l=Dr ls l l.length:=by unfold BN;rw[if_neg (fun g=>g (right_zero.2 S.right))]
  have b1:=IS S.right l.length (Nat.le_refl _)
  have b2:=Jp (o:=o) (MM S.voy) o.length (by have:=S.loads;omega)
  omega
 ·exact Int.le_refl _
end
theorem Tn {hn:Int} {ls:List Lnk} {us:List Snd} {ts:List Trp} {d:Dem}:∀k,(Ch hn ls us ts d k).1<0→Ch hn ls us ts d k=(-1,[],[])
 | 0,_=>rfl
 | k+1,h=>by
  simp only[Ch]at h ⊢
  by_cases c:CX hn ls us ts d k=0∧((Ch hn ls us ts d k).1<0∨Fp hn ls us ts d k<(Ch hn ls us ts d k).1)
  ·rw [if_pos c]at h
   have := PI (hn:=hn) (ls:=ls) (us:=us) (ts:=ts) (d:=d) (l:=Tm hn ls us ts d k) (o:=PG hn ls us ts d k)
   exact absurd h (by show ¬Et _ _ _ _ _ _ _<0;omega)
  ·rw [if_neg c]at h ⊢
   exact Tn k h
noncomputable def HV:Int×List Lnk×List Snd×List Trp×Dem→List PV:=fun (hn,ls,us,ts,d) => [.agg [I hn,AQ ls,Ay us,CK ts,I d.1,I d.2.1,I d.2.2.1,I d.2.2.2.1,I d.2.2.2.2],.func (.func 19) [] []]
noncomputable def NT:Int×List Lnk×List Snd×List Trp×Dem→PV:=fun (hn,ls,us,ts,d)=>.tuple [.agg [Ay (Ch hn ls us ts d (2 ^ ts.length)).2.1,ints (Ch hn ls us ts d (2 ^ ts.length)).2.2],I (if (Ch hn ls us ts d (2 ^ ts.length)).1<0 then 21 else 0)]
def ZZ:Int×List Lnk×List Snd×List Trp×Dem→Prop:=fun (hn,ls,us,ts,d)=>Ee hn ls us ts d=0
noncomputable def e_best1:Nat×Ent:=(18,.v (Ap HV NT ZZ))
theorem Aef:∀i j,HV i=HV j→i=j:=by
 rintro ⟨_,_,_,_,_⟩ ⟨_,_,_,_,_⟩ h
 simp only[HV,List.cons.injEq,and_true,PV.lits.injEq,PV.int.injEq,PV.agg.injEq,true_and,AF,AD,Ck]at h
 simp [Prod.ext_iff,h] <;> omega
theorem Aeg (hn:Int) (ls:List Lnk) (us:List Snd) (ts:List Trp) (d:Dem):Ap HV NT ZZ [.agg [I hn,AQ ls,Ay us,CK ts,I d.1,I d.2.1,I d.2.2.1,I d.2.2.2.1,I d.2.2.2.2],.func (.func 19) [] []]=@ite (Option (PV)) (Ee hn ls us ts d=0) (Classical.propDecidable _) (some (.tuple [.agg [Ay (Ch hn ls us ts d (2 ^ ts.length)).2.1,ints (Ch hn ls us ts d (2 ^ ts.length)).2.2],I (if (Ch hn ls us ts d (2 ^ ts.length)).1<0 then 21 else 0)])) none:=Br Aef (hn,ls,us,ts,d)
def Aeh:Prop:=∀(hn:Int) (ls:List Lnk) (us:List Snd) (ts:List Trp) (d:Dem) (h:Ee hn ls us ts d=0) ,VC Tryz.prog 18 (HV (hn,ls,us,ts,d)) (NT (hn,ls,us,ts,d))
theorem Aei:Aeh:=by
 intro hn ls us ts d hv
 dsimp only[HV,NT]
 refine Bc AP (l := [e_wide,e_find1,e_passage,e_vcost]) ((Ad Pr (Ad Aed (Ad Ri (Ad LJ Au))))) [4,6] []  Tryz.func18 rfl (by decide +kernel) (N:=55) rfl (by simp) rfl (by kernel_rfl) fun hs=>?_
 simp only[AK,PV.small,List.length_map,and_true,true_and]at hs
 have V:=vck_iff.1 hv
 have hn4:=V.few
 have hll:=V.size.2.1
 have h16:2 ^ ts.length≤2 ^ 4:=Nat.pow_le_pow_right (by omega) hn4
 have hsh:=LC (k:=ts.length) (by omega)
 have hk0:¬(ts.length:Int)<0:=by omega
 have hk64:ts.length≤64:=by omega
 obtain ⟨N,hN⟩:∃N,2 ^ ts.length=N:=⟨_,rfl⟩
 rw [hN]at hsh h16 ⊢
 obtain ⟨R,hR⟩:∃R,Ch hn ls us ts d N=R:=⟨_,rfl⟩
 rw [hR]
 have hneg:=Tn (hn:=hn) (ls:=ls) (us:=us) (ts:=ts) (d:=d) N
 rw [hR]at hneg
 simp only[↓bdD,bdP,seval,st0,Store.new,e_wide,e_find1,e_passage,e_vcost,Tryz.f18,BR,Be,B3,hk0,hk64,hsh]
 refine Aw [7,8,9,10,11,12,13,18,19,20,21,22,23,24,25,26,27,28,29,30,31,32,33,34,35,36,37,38,39,40,41,42,43,44,45,46,47,48,49,50] N (fun s ρ st'=>ρ 18=I s∧ρ 7=I (Ch hn ls us ts d s).1∧(∃c1 c2,st'.obj 1=some (.arr 0 2 [.agg [c1,c2]])∧(c1=Ay (Ch hn ls us ts d s).2.1∧c2=ints (Ch hn ls us ts d s).2.2∨(Ch hn ls us ts d s).1<0))∧st'.obj 0=some (.arr 0 2 [.agg [.nils,.nils]])∧2≤st'.next) (.refl _) ?_ ?_
 ·simp only[↓bdD,bdP,seval,Ch]
  exact ⟨_,_,rfl,rfl⟩
 rintro s ρ ⟨ob,M⟩ hs2 ⟨h18,h7,⟨c1,c2,p1,hc⟩,p0,hM⟩
 dsimp only at p1 p0 hM
 have m1:¬M=0∧¬0=M∧¬M=1∧¬1=M:=by omega
 by_cases hlt:s<N
 ·have hwk:IntKind.i64.wrap ((s:Int)+1)=((s+1:Nat):Int):=by rw[Ah (by omega) (by omega)];omega
  have hli:(s:Int)<(N:Int):=by omega
  have sw:=Pq (hn:=hn) (ls:=ls) (us:=us) (ts:=ts) (d:=d) (s:=s)
  rw [if_pos ⟨hv,by omega⟩]at sw
  have eB:Ch hn ls us ts d (s+1)=if CX hn ls us ts d s=0∧((Ch hn ls us ts d s).1<0∨Fp hn ls us ts d s<(Ch hn ls us ts d s).1)then (Fp hn ls us ts d s,Tm hn ls us ts d s,PG hn ls us ts d s)else Ch hn ls us ts d s:=rfl
  generalize Ch hn ls us ts d (s+1)=B2 at *
  generalize Ch hn ls us ts d s=B at *
  by_cases h:CX hn ls us ts d s=0
  case neg =>
   rw [if_neg (fun g=>h g.1)]at eB
   subst eB
   unfold CX at h
   generalize wHn hn ts=wh at *
   generalize wLs hn ls ts d s=wl at *
   generalize wUs ls us ts d s=wu at *
   simp only[↓bdD,bdP,seval,NS,Ac,Aa,AB,ty3,Be,BF,h18,h7,p1,p0,hlt,hli,hwk,sw,h]
   exact ⟨⟨_,_,⟨rfl,rfl⟩,hc⟩,hM⟩
  have hpb:=ZY h
  have sp:=Rh (hn:=hn) (ls:=ls) (us:=us) (ts:=ts) (d:=d) (l:=KH hn ls us ts d s)
  rw [if_pos ⟨by omega,hn4,hpb⟩]at sp
  unfold Fp Tm PG at eB
  unfold KH at sp eB
  have h0:=h
  unfold CX at h
  generalize wHn hn ts=wh at *
  generalize wLs hn ls ts d s=wl at *
  generalize wUs ls us ts d s=wu at *
  generalize hC:CV wh wl wu d=C at *
  generalize hS:psS ls.length C=S at *
  generalize hO:psO ls.length ts.length C=O at *
  by_cases a1:B.1<0
  ·rw [if_pos ⟨h0,.inl a1⟩]at eB
   subst eB
   simp only[↓bdD,bdP,seval,Store.new,Store.set,NS,EC,Ac,Aa,AB,ty3,AN,Be,B3,BF,h18,h7,p1,p0,m1,hlt,hli,hwk,sw,h,sp,hC,a1,Av]
   exact ⟨⟨_,_,⟨rfl,rfl⟩,.inl ⟨rfl,rfl⟩⟩,by omega⟩
  by_cases a2:Et hn ls us ts d S O<B.1
  ·rw [if_pos ⟨h0,.inr a2⟩]at eB
   subst eB
   simp only[↓bdD,bdP,seval,Store.new,Store.set,NS,EC,Ac,Aa,AB,ty3,AN,Be,B3,BF,h18,h7,p1,p0,m1,hlt,hli,hwk,sw,h,sp,hC,a1,a2,Av]
   exact ⟨⟨_,_,⟨rfl,rfl⟩,.inl ⟨rfl,rfl⟩⟩,by omega⟩
  ·rw [if_neg (fun g=>by rcases g.2 with g | g;exact a1 g;exact a2 g)]at eB
   subst eB
   simp only[↓bdD,bdP,seval,Store.new,Store.set,NS,EC,Ac,Aa,AB,ty3,AN,Be,B3,BF,h18,h7,p1,p0,m1,hlt,hli,hwk,sw,h,sp,hC,a1,a2,Av]
   rcases hc with hc | hc
   ·exact ⟨⟨_,_,⟨rfl,rfl⟩,hc⟩,by omega⟩
   ·exact absurd hc a1
 ·have e:s=N:=by omega
  subst e
  rw [hR]at h7 hc
  have hli:¬(s:Int)<(s:Int):=by omega
  by_cases a1:R.1<0
  ·have e:=hneg a1
   subst e
   simp only[↓bdD,bdP,seval,Ao,Store.set,B3,h18,h7,p0,hli,a1]
   done
  ·rcases hc with ⟨rfl,rfl⟩ | hc
   ·rw [if_neg a1]
    simp only[↓bdD,bdP,seval,Ao,Store.set,Ac,B3,h18,h7,p1,p0,hli,a1]
    done
   ·exact absurd hc a1
theorem Aej:AM Tryz.prog e_best1.1 e_best1.2:=Ax fun⟨hn,ls,us,ts,d⟩ h=>Aei hn ls us ts d h
end Sim
