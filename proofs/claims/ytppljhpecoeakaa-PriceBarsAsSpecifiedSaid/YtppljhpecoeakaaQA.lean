/- What functions of this seat compute, by values: contracts (lemmas of the statement's proof, under the conditions that each names). -/
import Derived.Test.YtppljhpecoeakaaQXR
set_option maxRecDepth 10000
set_option maxHeartbeats 4000000
set_option linter.unusedVariables false
set_option linter.unusedSimpArgs false
namespace Sim
open Go Go.Proofs
attribute [local congr] Ap Aq Al AC As Ar Av
def CN (hn:Int) (ls:List Lnk) (us:List Snd) (d:Dem):Int:=if Dw hn ls us d≠0 then Dw hn ls us d else if 4194304<d.2.2.1 then 2 else 0
noncomputable def HD:(Int)×(List Lnk)×(List Snd)×(Dem)→List PV:=fun (hn,ls,us,d) => [.agg [I hn,Aw ls,Az us,I d.1,I d.2.1,I d.2.2.1,I d.2.2.2.1,I d.2.2.2.2]]
noncomputable def Tz:(Int)×(List Lnk)×(List Snd)×(Dem)→PV:=fun (hn,ls,us,d)=>I (CN hn ls us d)
def TA:(Int)×(List Lnk)×(List Snd)×(Dem)→Prop:=fun (hn,ls,us,d)=>True
noncomputable def e_pcheck:Nat×Ent:=(15,.v (Ag HD Tz TA))
theorem nH:∀i j,HD i=HD j→i=j:=by
 rintro ⟨hn₁,ls₁,us₁,d₁⟩ ⟨hn₂,ls₂,us₂,d₂⟩ h
 simp only[HD,List.cons.injEq,and_true,PV.lits.injEq,PV.int.injEq,PV.agg.injEq,true_and,AN,AD]at h
 simp [Prod.ext_iff,h] <;> omega
theorem BL (hn:Int) (ls:List Lnk) (us:List Snd) (d:Dem):Ag HD Tz TA [.agg [I hn,Aw ls,Az us,I d.1,I d.2.1,I d.2.2.1,I d.2.2.2.1,I d.2.2.2.2]]=some (I (CN hn ls us d)):=Ax nH (i:=(hn,ls,us,d)) trivial
def TB:Prop:=∀(hn:Int) (ls:List Lnk) (us:List Snd) (d:Dem) ,VC Try.prog 15 [.agg [I hn,Aw ls,Az us,I d.1,I d.2.1,I d.2.2.1,I d.2.2.2.1,I d.2.2.2.2]] (I (CN hn ls us d))
def TC:Prop:=AL Try.prog e_pcheck.1 e_pcheck.2
theorem nI (c:TB):TC:=At fun⟨hn,ls,us,d⟩ h=>c hn ls us d
theorem nJ:TB:=by
 intro hn ls us d
 refine A5 AO (l := [e_fcheck]) ((Ad Tx An)) [] []  Try.func15 rfl (by decide +kernel) (N:=18) rfl (by simp) rfl (by kernel_rfl) fun hs=>?_
 simp only[AI,PV.small,List.length_map,and_true,true_and]at hs
 unfold CN
 by_cases h1:Dw hn ls us d=0
 case neg =>
  rw [if_pos h1]
  have sp:=HB (hn:=hn) (ls:=ls) (us:=us) (d:=d)
  dsimp only[Cp,Aw,Az]at sp
  generalize hr:Dw hn ls us d=r at *
  simp +contextual (maxSteps:=4000000) only[↓bdD,bdP,Nat.reduceLT,Nat.reduceBEq,Ah,Nat.reduceAdd,Nat.reduceLeDiff,st0,↓reduceIte,e_fcheck,Ac,Ab,Try.f15,Au,AJ,AS,A8,h1,sp]
 rw [if_neg (fun g=>g h1)]
 have sp:=HB (hn:=hn) (ls:=ls) (us:=us) (d:=d)
 rw [h1]at sp
 dsimp only[Cp,Aw,Az]at sp
 by_cases h2:4194304<d.2.2.1
 ·rw [if_pos h2]
  simp +contextual (maxSteps:=4000000) only[↓bdD,bdP,Nat.reduceLT,Nat.reduceBEq,Ah,Nat.reduceAdd,Nat.reduceLeDiff,st0,↓reduceIte,e_fcheck,Ac,Ab,Try.f15,ty3,Au,AJ,AS,A8,h2,sp]
 ·rw [if_neg h2]
  simp +contextual (maxSteps:=4000000) only[↓bdD,bdP,Nat.reduceLT,Nat.reduceBEq,Ah,Nat.reduceAdd,Nat.reduceLeDiff,st0,↓reduceIte,e_fcheck,Ac,Ab,Try.f15,ty3,Au,AJ,AS,A8,h2,sp]
theorem HE:TC:=nI nJ
noncomputable def FW:(Int)×(List Lnk)×(List Snd)×(Dem)→List PV:=fun (hn,ls,us,d) => [.agg [I hn,Aw ls,Az us,I d.1,I d.2.1,I d.2.2.1,I d.2.2.2.1,I d.2.2.2.2]]
noncomputable def OX:(Int)×(List Lnk)×(List Snd)×(Dem)→PV:=fun (hn,ls,us,d)=>I (CN hn ls us d)
def OY:(Int)×(List Lnk)×(List Snd)×(Dem)→Prop:=fun (hn,ls,us,d)=>True
noncomputable def e_rpcheck:Nat×Ent:=(16,.v (Ag FW OX OY))
theorem bR:∀i j,FW i=FW j→i=j:=by
 rintro ⟨hn₁,ls₁,us₁,d₁⟩ ⟨hn₂,ls₂,us₂,d₂⟩ h
 simp only[FW,List.cons.injEq,and_true,PV.lits.injEq,PV.int.injEq,PV.agg.injEq,true_and,AN,AD]at h
 simp [Prod.ext_iff,h] <;> omega
theorem FX (hn:Int) (ls:List Lnk) (us:List Snd) (d:Dem):Ag FW OX OY [.agg [I hn,Aw ls,Az us,I d.1,I d.2.1,I d.2.2.1,I d.2.2.2.1,I d.2.2.2.2]]=some (I (CN hn ls us d)):=Ax bR (i:=(hn,ls,us,d)) trivial
def OZ:Prop:=∀(hn:Int) (ls:List Lnk) (us:List Snd) (d:Dem) ,VC Try.prog 16 [.agg [I hn,Aw ls,Az us,I d.1,I d.2.1,I d.2.2.1,I d.2.2.2.1,I d.2.2.2.2]] (I (CN hn ls us d))
def O0:Prop:=AL Try.prog e_rpcheck.1 e_rpcheck.2
theorem bS (c:OZ):O0:=At fun⟨hn,ls,us,d⟩ h=>c hn ls us d
theorem bT:OZ:=by
 intro hn ls us d
 refine A5 AO (l := [e_rfcheck]) ((Ad bN An)) [] []  Try.func16 rfl (by decide +kernel) (N:=18) rfl (by simp) rfl (by kernel_rfl) fun hs=>?_
 simp only[AI,PV.small,List.length_map,and_true,true_and]at hs
 unfold CN
 by_cases h1:Dw hn ls us d=0
 case neg =>
  rw [if_pos h1]
  have sp:=OS (hn:=hn) (ls:=ls) (us:=us) (d:=d)
  dsimp only[Cp,Aw,Az]at sp
  generalize hr:Dw hn ls us d=r at *
  simp +contextual (maxSteps:=4000000) only[↓bdD,bdP,Nat.reduceLT,Nat.reduceBEq,Ah,Nat.reduceAdd,Nat.reduceLeDiff,st0,↓reduceIte,e_rfcheck,Ac,Ab,Try.f16,Au,AJ,AS,A8,h1,sp]
 rw [if_neg (fun g=>g h1)]
 have sp:=OS (hn:=hn) (ls:=ls) (us:=us) (d:=d)
 rw [h1]at sp
 dsimp only[Cp,Aw,Az]at sp
 by_cases h2:4194304<d.2.2.1
 ·rw [if_pos h2]
  simp +contextual (maxSteps:=4000000) only[↓bdD,bdP,Nat.reduceLT,Nat.reduceBEq,Ah,Nat.reduceAdd,Nat.reduceLeDiff,st0,↓reduceIte,e_rfcheck,Ac,Ab,Try.f16,ty3,Au,AJ,AS,A8,h2,sp]
 ·rw [if_neg h2]
  simp +contextual (maxSteps:=4000000) only[↓bdD,bdP,Nat.reduceLT,Nat.reduceBEq,Ah,Nat.reduceAdd,Nat.reduceLeDiff,st0,↓reduceIte,e_rfcheck,Ac,Ab,Try.f16,ty3,Au,AJ,AS,A8,h2,sp]
theorem bU:O0:=bS bT
def nK (hn:Int) (ls:List Lnk) (us:List Snd) (d:Dem) (span:Int):Bool:=decide (hn≤5)&&(decide (ls.length≤8)&&(decide (us.length≤20)&&(decide (IntKind.i64.wrap (d.2.2.2.2-d.2.2.2.1)≤span)||decide (32<IntKind.i64.wrap (d.2.2.2.2-d.2.2.2.1)))))
noncomputable def TD:(Int)×(List Lnk)×(List Snd)×(Dem)×(Int)→List PV:=fun (hn,ls,us,d,span) => [.agg [I hn,Aw ls,Az us,I d.1,I d.2.1,I d.2.2.1,I d.2.2.2.1,I d.2.2.2.2],I span]
noncomputable def Aaz:(Int)×(List Lnk)×(List Snd)×(Dem)×(Int)→PV:=fun (hn,ls,us,d,span)=>B (nK hn ls us d span)
def Aa0:(Int)×(List Lnk)×(List Snd)×(Dem)×(Int)→Prop:=fun (hn,ls,us,d,span)=>True
noncomputable def e_few:Nat×Ent:=(10,.v (Ag TD Aaz Aa0))
theorem Ahr:∀i j,TD i=TD j→i=j:=by
 rintro ⟨hn₁,ls₁,us₁,d₁,span₁⟩ ⟨hn₂,ls₂,us₂,d₂,span₂⟩ h
 simp only[TD,List.cons.injEq,and_true,PV.lits.injEq,PV.int.injEq,PV.agg.injEq,true_and,AN,AD]at h
 simp [Prod.ext_iff,h] <;> omega
theorem XI (hn:Int) (ls:List Lnk) (us:List Snd) (d:Dem) (span:Int):Ag TD Aaz Aa0 [.agg [I hn,Aw ls,Az us,I d.1,I d.2.1,I d.2.2.1,I d.2.2.2.1,I d.2.2.2.2],I span]=some (B (nK hn ls us d span)):=Ax Ahr (i:=(hn,ls,us,d,span)) trivial
def Aa1:Prop:=∀(hn:Int) (ls:List Lnk) (us:List Snd) (d:Dem) (span:Int) ,VC Try.prog 10 [.agg [I hn,Aw ls,Az us,I d.1,I d.2.1,I d.2.2.1,I d.2.2.2.1,I d.2.2.2.2],I span] (B (nK hn ls us d span))
def Aa2:Prop:=AL Try.prog e_few.1 e_few.2
theorem Ahs (c:Aa1):Aa2:=At fun⟨hn,ls,us,d,span⟩ h=>c hn ls us d span
theorem Aht:Aa1:=by
 intro hn ls us d span
 refine A5 AO (l := []) (An) [] []  Try.func10 rfl (by decide +kernel) (N:=39) rfl (by simp) rfl (by kernel_rfl) fun hs=>?_
 simp only[AI,PV.small,List.length_map,and_true,true_and]at hs
 unfold nK
 generalize hw:IntKind.i64.wrap (d.2.2.2.2-d.2.2.2.1)=w at *
 by_cases h1:hn≤5
 case neg=>simp +contextual (maxSteps:=4000000) only[↓bdD,bdP,Nat.reduceLT,Nat.reduceBEq,Ah,Nat.reduceAdd,st0,↓reduceIte,Try.f10,ty3,Au,AS,A8,Bool.false_and,h1,hw]
 by_cases h2:ls.length≤8
 case neg =>
  have h2i:¬(ls.length:Int)≤8:=by omega
  simp +contextual (maxSteps:=4000000) only[↓bdD,bdP,Nat.reduceLT,Nat.reduceBEq,Ah,Nat.reduceAdd,st0,↓reduceIte,Try.f10,ty3,By,Au,AS,A8,Bool.false_and,h1,h2,h2i,hw]
 have h2i:(ls.length:Int)≤8:=by omega
 by_cases h3:us.length≤20
 case neg =>
  have h3i:¬(us.length:Int)≤20:=by omega
  simp +contextual (maxSteps:=4000000) only[↓bdD,bdP,Nat.reduceLT,Nat.reduceBEq,Ah,Nat.reduceAdd,st0,↓reduceIte,Try.f10,ty3,By,Au,AJ,AS,A8,Bool.false_and,h1,h2,h2i,h3,h3i,hw]
 have h3i:(us.length:Int)≤20:=by omega
 by_cases h4:w≤span
 ·simp +contextual (maxSteps:=4000000) only[↓bdD,bdP,Nat.reduceLT,Nat.reduceBEq,Ah,Nat.reduceAdd,st0,↓reduceIte,Try.f10,ty3,By,Au,AJ,AS,A8,h1,h2,h2i,h3,h3i,h4,hw]
 ·by_cases h5:32<w
  ·simp +contextual (maxSteps:=4000000) only[↓bdD,bdP,Nat.reduceLT,Nat.reduceBEq,Ah,Nat.reduceAdd,st0,↓reduceIte,Try.f10,ty3,By,Au,AJ,AS,A8,h1,h2,h2i,h3,h3i,h4,h5,hw]
  ·simp +contextual (maxSteps:=4000000) only[↓bdD,bdP,Nat.reduceLT,Nat.reduceBEq,Ah,Nat.reduceAdd,st0,↓reduceIte,Try.f10,ty3,By,Au,AJ,AS,A8,h1,h2,h2i,h3,h3i,h4,h5,hw]
theorem Ahu:Aa2:=Ahs Aht
noncomputable def J2:(Int)×(List Lnk)×(List Snd)×(Dem)×(Int)×(Int)→List PV:=fun (hn,ls,l,d,link,tick) => [.agg [I hn,Aw ls,Az l,I d.1,I d.2.1,I d.2.2.1,I d.2.2.2.1,I d.2.2.2.2],I link,I tick]
noncomputable def XJ:(Int)×(List Lnk)×(List Snd)×(Dem)×(Int)×(Int)→PV:=fun (hn,ls,l,d,link,tick)=>I (Ba l link tick l.length)
def XK:(Int)×(List Lnk)×(List Snd)×(Dem)×(Int)×(Int)→Prop:=fun (hn,ls,l,d,link,tick)=>smB l
noncomputable def e_taken:Nat×Ent:=(49,.v (Ag J2 XJ XK))
theorem yU:∀i j,J2 i=J2 j→i=j:=by
 rintro ⟨hn₁,ls₁,l₁,d₁,link₁,tick₁⟩ ⟨hn₂,ls₂,l₂,d₂,link₂,tick₂⟩ h
 simp only[J2,List.cons.injEq,and_true,PV.lits.injEq,PV.int.injEq,PV.agg.injEq,true_and,AN,AD]at h
 simp [Prod.ext_iff,h] <;> omega
theorem yV (hn:Int) (ls:List Lnk) (l:List Snd) (d:Dem) (link:Int) (tick:Int):Ag J2 XJ XK [.agg [I hn,Aw ls,Az l,I d.1,I d.2.1,I d.2.2.1,I d.2.2.2.1,I d.2.2.2.2],I link,I tick]=@ite (Option (PV)) (smB l) (Classical.propDecidable _) (some (I (Ba l link tick l.length))) none:=BU yU (hn,ls,l,d,link,tick)
def XL:Prop:=∀(hn:Int) (ls:List Lnk) (l:List Snd) (d:Dem) (link:Int) (tick:Int) (h:smB l) ,VC Try.prog 49 [.agg [I hn,Aw ls,Az l,I d.1,I d.2.1,I d.2.2.1,I d.2.2.2.1,I d.2.2.2.2],I link,I tick] (I (Ba l link tick l.length))
def XM:Prop:=AL Try.prog e_taken.1 e_taken.2
theorem yW (c:XL):XM:=At fun⟨hn,ls,l,d,link,tick⟩ h=>c hn ls l d link tick h
theorem yX:XL:=by
 intro hn ls l d link tick hb
 refine A5 AO (l := []) (An) [] []  Try.func49 rfl (by decide +kernel) (N:=43) rfl (by simp) rfl (by kernel_rfl) fun hs=>?_
 simp only[AI,PV.small,List.length_map,and_true,true_and]at hs
 have hlen:=hb.1
 generalize hr:Ba l link tick l.length=r
 simp +contextual (maxSteps:=4000000) only[↓bdD,bdP,Nat.reduceLT,Nat.reduceAdd,st0,↓reduceIte,Try.f49]
 refine Ay [7,8,9,10,11,12,13,14,15,16,17,18,19,20,21,22,23,24,25,26,27,28,29,30,31,32,33,34,35,36,37,38,39,40,41] l.length (fun k ρ st'=>ρ 8=I k∧ρ 7=I (Ba l link tick k)) (.refl _) ?_ ?_
 ·simp +contextual (maxSteps:=4000000) only[↓bdD,bdP,Nat.reduceBEq,Ba]
 ·rintro k ρ ⟨ob,M⟩ hk ⟨h8,h7⟩
  by_cases hlt:k<l.length
  ·have hw1:IntKind.i64.wrap ((k:Int)+1)=((k+1:Nat):Int):=by rw[Ai (by omega) (by omega)];omega
   have hs:=MF hb link tick k hk
   have hbk:=hb.2 k hlt
   have hstep:Ba l link tick (k+1)=Ba l link tick k+if (l.getD k dS).1=link∧(l.getD k dS).2.1=tick then (l.getD k dS).2.2 else 0:=rfl
   generalize hx:l.getD k dS=x at *
   by_cases e1:x.1=link
   ·by_cases e2:x.2.1=tick
    ·rw [if_pos ⟨e1,e2⟩]at hstep
     have hw2:IntKind.i64.wrap (Ba l link tick k+x.2.2)=Ba l link tick (k+1):=by rw[hstep,Ai (by omega) (by omega)]
     simp +contextual (maxSteps:=4000000) only[↓bdD,bdP,Nat.reduceLT,Nat.reduceBEq,Nat.reduceAdd,↓reduceIte,AH,ty3,AJ,A8,BT,h8,h7,hlt,hx,e1,e2,hw1,hw2]
    ·rw [if_neg (fun h=>e2 h.2),Int.add_zero]at hstep
     simp +contextual (maxSteps:=4000000) only[↓bdD,bdP,Nat.reduceLT,Nat.reduceBEq,Nat.reduceAdd,↓reduceIte,AH,ty3,AJ,A8,BT,h8,h7,hlt,hx,e1,e2,hw1,hstep]
   ·rw [if_neg (fun h=>e1 h.1),Int.add_zero]at hstep
    simp +contextual (maxSteps:=4000000) only[↓bdD,bdP,Nat.reduceLT,Nat.reduceBEq,Nat.reduceAdd,↓reduceIte,AH,ty3,AJ,A8,BT,h8,h7,hlt,hx,e1,hw1,hstep]
  ·have e:k=l.length:=by omega
   subst e
   rw [hr]at h7
   simp +contextual (maxSteps:=4000000) only[↓bdD,bdP,Nat.reduceLT,Nat.reduceBEq,Ah,Nat.reduceAdd,↓reduceIte,AJ,A8,h8,h7]
theorem yY:XM:=yW yX
noncomputable def J3:(Int)×(List Lnk)×(List Snd)×(Dem)×(Int)×(Int)→List PV:=fun (hn,ls,us,d,link,tick) => [.agg [I hn,Aw ls,Az us,I d.1,I d.2.1,I d.2.2.1,I d.2.2.2.1,I d.2.2.2.2],I link,I tick]
noncomputable def XN:(Int)×(List Lnk)×(List Snd)×(Dem)×(Int)×(Int)→PV:=fun (hn,ls,us,d,link,tick)=>I (lfM ls us link tick)
def XO:(Int)×(List Lnk)×(List Snd)×(Dem)×(Int)×(Int)→Prop:=fun (hn,ls,us,d,link,tick)=>Bz hn ls us=0∧0≤link∧link<(ls.length:Int)∧0≤tick
noncomputable def e_pleft:Nat×Ent:=(27,.v (Ag J3 XN XO))
theorem yZ:∀i j,J3 i=J3 j→i=j:=by
 rintro ⟨hn₁,ls₁,us₁,d₁,link₁,tick₁⟩ ⟨hn₂,ls₂,us₂,d₂,link₂,tick₂⟩ h
 simp only[J3,List.cons.injEq,and_true,PV.lits.injEq,PV.int.injEq,PV.agg.injEq,true_and,AN,AD]at h
 simp [Prod.ext_iff,h] <;> omega
theorem zA (hn:Int) (ls:List Lnk) (us:List Snd) (d:Dem) (link:Int) (tick:Int):Ag J3 XN XO [.agg [I hn,Aw ls,Az us,I d.1,I d.2.1,I d.2.2.1,I d.2.2.2.1,I d.2.2.2.2],I link,I tick]=@ite (Option (PV)) (Bz hn ls us=0∧0≤link∧link<(ls.length:Int)∧0≤tick) (Classical.propDecidable _) (some (I (lfM ls us link tick))) none:=BU yZ (hn,ls,us,d,link,tick)
def XP:Prop:=∀(hn:Int) (ls:List Lnk) (us:List Snd) (d:Dem) (link:Int) (tick:Int) (h:Bz hn ls us=0∧0≤link∧link<(ls.length:Int)∧0≤tick) ,VC Try.prog 27 [.agg [I hn,Aw ls,Az us,I d.1,I d.2.1,I d.2.2.1,I d.2.2.2.1,I d.2.2.2.2],I link,I tick] (I (lfM ls us link tick))
def XQ:Prop:=AL Try.prog e_pleft.1 e_pleft.2
theorem zB (c:XP):XQ:=At fun⟨hn,ls,us,d,link,tick⟩ h=>c hn ls us d link tick h
theorem zC:XP:=by
 rintro hn ls us d link tick ⟨hf,h0,h1,h2⟩
 refine A5 AO (l := [e_rcap,e_taken]) ((Ad kZ (Ad yY An))) [] []  Try.func27 rfl (by decide +kernel) (N:=19) rfl (by simp) rfl (by kernel_rfl) fun hs=>?_
 simp only[AI,PV.small,List.length_map,and_true,true_and]at hs
 obtain ⟨ok,_⟩:=B6 hf
 have q1:=EZ hf (k:=link) (t:=tick) ⟨h0,h1⟩
 have q2:=EH ok.net (link:=link) (tick:=tick) h0 h1
 have sp1:=V5 (hn:=hn) (ls:=ls) (link:=link) (tick:=tick)
 rw [if_pos ⟨h0,h1,h2⟩]at sp1
 have sp2:=yV (hn:=hn) (ls:=ls) (l:=us) (d:=d) (link:=link) (tick:=tick)
 rw [if_pos ok.smB]at sp2
 dsimp only[Aw,Az]at sp1 sp2
 unfold lfM
 generalize CQ ls link tick=x at *
 generalize Ba us link tick us.length=z at *
 have w:IntKind.i64.wrap (x-z)=x-z:=Ai (by omega) (by omega)
 simp +contextual (maxSteps:=4000000) only[↓bdD,bdP,Nat.reduceLT,Nat.reduceBEq,Ah,Nat.reduceEqDiff,Nat.reduceAdd,Nat.reduceLeDiff,st0,↓reduceIte,e_rcap,e_taken,Ac,Ab,Try.f27,ty3,Au,A8,sp1,sp2,w]
theorem zD:XQ:=zB zC
abbrev Fe (y:List (List Int)):PV:=.lits 1 (y.map ints)
theorem C7 {y:List (List Int)} {k:Nat} (h:k<y.length):nth (y.map ints) k=.lits 1 ((y.getD k []).map (PV.int .i64)):=Eh [] h
theorem Dl {y:List (List Int)}:AU (y.map ints)=true:=HW fun x=>by rw[Me,Hh]
theorem J4 {y z:List (List Int)}:(y.map ints=z.map ints)=(y=z):=HX fun x y h=>by
 simp only[ints,PV.lits.injEq,true_and]at h
 rwa [CV]at h
theorem bV {y:List (List Int)} (h:AI (y.map ints)) {k:Nat}:(y.getD k []).length≤9223372036854775807:=by
 induction y generalizing k with
 | nil=>simp
 | cons l y ih =>
  simp only[List.map_cons,AI,ints,PV.small]at h
  cases k with
  | zero=>simpa using h.1.1
  | succ k=>simpa using ih h.2 (k:=k)
end Sim
