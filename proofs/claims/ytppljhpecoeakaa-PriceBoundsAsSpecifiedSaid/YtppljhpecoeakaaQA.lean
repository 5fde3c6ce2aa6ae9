/- What functions of this seat compute, by values: contracts (lemmas of the statement's proof, under the conditions that each names). -/
import Derived.Test.YtppljhpecoeakaaQXR
set_option maxRecDepth 10000
set_option maxHeartbeats 4000000
set_option linter.unusedVariables false
set_option linter.unusedSimpArgs false
namespace Sim
open Go Go.Proofs
attribute [local congr] Ap Aq Am AD As Ar Aw
def CA (hn:Int) (ls:List Lnk) (us:List Snd) (d:Dem):Int:=if Dv hn ls us d≠0 then Dv hn ls us d else if 4194304<d.2.2.1 then 2 else 0
noncomputable def HH:(Int)×(List Lnk)×(List Snd)×(Dem)→List PV:=fun (hn,ls,us,d) => [.agg [I hn,Ax ls,AA us,I d.1,I d.2.1,I d.2.2.1,I d.2.2.2.1,I d.2.2.2.2]]
noncomputable def TD:(Int)×(List Lnk)×(List Snd)×(Dem)→PV:=fun (hn,ls,us,d)=>I (CA hn ls us d)
def TE:(Int)×(List Lnk)×(List Snd)×(Dem)→Prop:=fun (hn,ls,us,d)=>True
noncomputable def e_pcheck:Nat×Ent:=(15,.v (Ah HH TD TE))
theorem nP:∀i j,HH i=HH j→i=j:=by
 rintro ⟨hn₁,ls₁,us₁,d₁⟩ ⟨hn₂,ls₂,us₂,d₂⟩ h
 simp only[HH,List.cons.injEq,and_true,PV.lits.injEq,PV.int.injEq,PV.agg.injEq,true_and,AN,AF]at h
 simp [Prod.ext_iff,h] <;> omega
theorem BG (hn:Int) (ls:List Lnk) (us:List Snd) (d:Dem):Ah HH TD TE [.agg [I hn,Ax ls,AA us,I d.1,I d.2.1,I d.2.2.1,I d.2.2.2.1,I d.2.2.2.2]]=some (I (CA hn ls us d)):=Ay nP (i:=(hn,ls,us,d)) trivial
def TF:Prop:=∀(hn:Int) (ls:List Lnk) (us:List Snd) (d:Dem) ,VC Try.prog 15 [.agg [I hn,Ax ls,AA us,I d.1,I d.2.1,I d.2.2.1,I d.2.2.2.1,I d.2.2.2.2]] (I (CA hn ls us d))
def TG:Prop:=AL Try.prog e_pcheck.1 e_pcheck.2
theorem nQ (c:TF):TG:=At fun⟨hn,ls,us,d⟩ h=>c hn ls us d
theorem nR:TF:=by
 intro hn ls us d
 refine A5 AO (l := [e_fcheck]) ((Ad TB Ao)) [] []  Try.func15 rfl (by decide +kernel) (N:=18) rfl (by simp) rfl (by kernel_rfl) fun hs=>?_
 simp only[AI,PV.small,List.length_map,and_true,true_and]at hs
 unfold CA
 by_cases h1:Dv hn ls us d=0
 case neg =>
  rw [if_pos h1]
  have sp:=HF (hn:=hn) (ls:=ls) (us:=us) (d:=d)
  dsimp only[Cq,Ax,AA]at sp
  generalize hr:Dv hn ls us d=r at *
  simp +contextual (maxSteps:=4000000) only[↓bdD,bdP,Nat.reduceLT,Nat.reduceBEq,Ai,Nat.reduceAdd,Nat.reduceLeDiff,st0,↓reduceIte,e_fcheck,Ac,Ab,Try.f15,Av,AJ,AV,A8,h1,sp]
 rw [if_neg (fun g=>g h1)]
 have sp:=HF (hn:=hn) (ls:=ls) (us:=us) (d:=d)
 rw [h1]at sp
 dsimp only[Cq,Ax,AA]at sp
 by_cases h2:4194304<d.2.2.1
 ·rw [if_pos h2]
  simp +contextual (maxSteps:=4000000) only[↓bdD,bdP,Nat.reduceLT,Nat.reduceBEq,Ai,Nat.reduceAdd,Nat.reduceLeDiff,st0,↓reduceIte,e_fcheck,Ac,Ab,Try.f15,ty3,Av,AJ,AV,A8,h2,sp]
 ·rw [if_neg h2]
  simp +contextual (maxSteps:=4000000) only[↓bdD,bdP,Nat.reduceLT,Nat.reduceBEq,Ai,Nat.reduceAdd,Nat.reduceLeDiff,st0,↓reduceIte,e_fcheck,Ac,Ab,Try.f15,ty3,Av,AJ,AV,A8,h2,sp]
theorem FW:TG:=nQ nR
noncomputable def FX:(Int)×(List Lnk)×(List Snd)×(Dem)→List PV:=fun (hn,ls,us,d) => [.agg [I hn,Ax ls,AA us,I d.1,I d.2.1,I d.2.2.1,I d.2.2.2.1,I d.2.2.2.2]]
noncomputable def OX:(Int)×(List Lnk)×(List Snd)×(Dem)→PV:=fun (hn,ls,us,d)=>I (CA hn ls us d)
def OY:(Int)×(List Lnk)×(List Snd)×(Dem)→Prop:=fun (hn,ls,us,d)=>True
noncomputable def e_rpcheck:Nat×Ent:=(16,.v (Ah FX OX OY))
theorem bZ:∀i j,FX i=FX j→i=j:=by
 rintro ⟨hn₁,ls₁,us₁,d₁⟩ ⟨hn₂,ls₂,us₂,d₂⟩ h
 simp only[FX,List.cons.injEq,and_true,PV.lits.injEq,PV.int.injEq,PV.agg.injEq,true_and,AN,AF]at h
 simp [Prod.ext_iff,h] <;> omega
theorem Ig (hn:Int) (ls:List Lnk) (us:List Snd) (d:Dem):Ah FX OX OY [.agg [I hn,Ax ls,AA us,I d.1,I d.2.1,I d.2.2.1,I d.2.2.2.1,I d.2.2.2.2]]=some (I (CA hn ls us d)):=Ay bZ (i:=(hn,ls,us,d)) trivial
def OZ:Prop:=∀(hn:Int) (ls:List Lnk) (us:List Snd) (d:Dem) ,VC Try.prog 16 [.agg [I hn,Ax ls,AA us,I d.1,I d.2.1,I d.2.2.1,I d.2.2.2.1,I d.2.2.2.2]] (I (CA hn ls us d))
def O0:Prop:=AL Try.prog e_rpcheck.1 e_rpcheck.2
theorem cA (c:OZ):O0:=At fun⟨hn,ls,us,d⟩ h=>c hn ls us d
theorem cB:OZ:=by
 intro hn ls us d
 refine A5 AO (l := [e_rfcheck]) ((Ad bW Ao)) [] []  Try.func16 rfl (by decide +kernel) (N:=18) rfl (by simp) rfl (by kernel_rfl) fun hs=>?_
 simp only[AI,PV.small,List.length_map,and_true,true_and]at hs
 unfold CA
 by_cases h1:Dv hn ls us d=0
 case neg =>
  rw [if_pos h1]
  have sp:=OS (hn:=hn) (ls:=ls) (us:=us) (d:=d)
  dsimp only[Cq,Ax,AA]at sp
  generalize hr:Dv hn ls us d=r at *
  simp +contextual (maxSteps:=4000000) only[↓bdD,bdP,Nat.reduceLT,Nat.reduceBEq,Ai,Nat.reduceAdd,Nat.reduceLeDiff,st0,↓reduceIte,e_rfcheck,Ac,Ab,Try.f16,Av,AJ,AV,A8,h1,sp]
 rw [if_neg (fun g=>g h1)]
 have sp:=OS (hn:=hn) (ls:=ls) (us:=us) (d:=d)
 rw [h1]at sp
 dsimp only[Cq,Ax,AA]at sp
 by_cases h2:4194304<d.2.2.1
 ·rw [if_pos h2]
  simp +contextual (maxSteps:=4000000) only[↓bdD,bdP,Nat.reduceLT,Nat.reduceBEq,Ai,Nat.reduceAdd,Nat.reduceLeDiff,st0,↓reduceIte,e_rfcheck,Ac,Ab,Try.f16,ty3,Av,AJ,AV,A8,h2,sp]
 ·rw [if_neg h2]
  simp +contextual (maxSteps:=4000000) only[↓bdD,bdP,Nat.reduceLT,Nat.reduceBEq,Ai,Nat.reduceAdd,Nat.reduceLeDiff,st0,↓reduceIte,e_rfcheck,Ac,Ab,Try.f16,ty3,Av,AJ,AV,A8,h2,sp]
theorem Pa:O0:=cA cB
def nS (hn:Int) (ls:List Lnk) (us:List Snd) (d:Dem) (span:Int):Bool:=decide (hn≤5)&&(decide (ls.length≤8)&&(decide (us.length≤20)&&(decide (IntKind.i64.wrap (d.2.2.2.2-d.2.2.2.1)≤span)||decide (32<IntKind.i64.wrap (d.2.2.2.2-d.2.2.2.1)))))
noncomputable def TH:(Int)×(List Lnk)×(List Snd)×(Dem)×(Int)→List PV:=fun (hn,ls,us,d,span) => [.agg [I hn,Ax ls,AA us,I d.1,I d.2.1,I d.2.2.1,I d.2.2.2.1,I d.2.2.2.2],I span]
noncomputable def Abc:(Int)×(List Lnk)×(List Snd)×(Dem)×(Int)→PV:=fun (hn,ls,us,d,span)=>B (nS hn ls us d span)
def Abd:(Int)×(List Lnk)×(List Snd)×(Dem)×(Int)→Prop:=fun (hn,ls,us,d,span)=>True
noncomputable def e_few:Nat×Ent:=(10,.v (Ah TH Abc Abd))
theorem Ah2:∀i j,TH i=TH j→i=j:=by
 rintro ⟨hn₁,ls₁,us₁,d₁,span₁⟩ ⟨hn₂,ls₂,us₂,d₂,span₂⟩ h
 simp only[TH,List.cons.injEq,and_true,PV.lits.injEq,PV.int.injEq,PV.agg.injEq,true_and,AN,AF]at h
 simp [Prod.ext_iff,h] <;> omega
theorem nT (hn:Int) (ls:List Lnk) (us:List Snd) (d:Dem) (span:Int):Ah TH Abc Abd [.agg [I hn,Ax ls,AA us,I d.1,I d.2.1,I d.2.2.1,I d.2.2.2.1,I d.2.2.2.2],I span]=some (B (nS hn ls us d span)):=Ay Ah2 (i:=(hn,ls,us,d,span)) trivial
def Abe:Prop:=∀(hn:Int) (ls:List Lnk) (us:List Snd) (d:Dem) (span:Int) ,VC Try.prog 10 [.agg [I hn,Ax ls,AA us,I d.1,I d.2.1,I d.2.2.1,I d.2.2.2.1,I d.2.2.2.2],I span] (B (nS hn ls us d span))
def Abf:Prop:=AL Try.prog e_few.1 e_few.2
theorem Ah3 (c:Abe):Abf:=At fun⟨hn,ls,us,d,span⟩ h=>c hn ls us d span
theorem Ah4:Abe:=by
 intro hn ls us d span
 refine A5 AO (l := []) (Ao) [] []  Try.func10 rfl (by decide +kernel) (N:=39) rfl (by simp) rfl (by kernel_rfl) fun hs=>?_
 simp only[AI,PV.small,List.length_map,and_true,true_and]at hs
 unfold nS
 generalize hw:IntKind.i64.wrap (d.2.2.2.2-d.2.2.2.1)=w at *
 by_cases h1:hn≤5
 case neg=>simp +contextual (maxSteps:=4000000) only[↓bdD,bdP,Nat.reduceLT,Nat.reduceBEq,Ai,Nat.reduceAdd,st0,↓reduceIte,Try.f10,ty3,Av,AV,A8,Bool.false_and,h1,hw]
 by_cases h2:ls.length≤8
 case neg =>
  have h2i:¬(ls.length:Int)≤8:=by omega
  simp +contextual (maxSteps:=4000000) only[↓bdD,bdP,Nat.reduceLT,Nat.reduceBEq,Ai,Nat.reduceAdd,st0,↓reduceIte,Try.f10,ty3,BC,Av,AV,A8,Bool.false_and,h1,h2,h2i,hw]
 have h2i:(ls.length:Int)≤8:=by omega
 by_cases h3:us.length≤20
 case neg =>
  have h3i:¬(us.length:Int)≤20:=by omega
  simp +contextual (maxSteps:=4000000) only[↓bdD,bdP,Nat.reduceLT,Nat.reduceBEq,Ai,Nat.reduceAdd,st0,↓reduceIte,Try.f10,ty3,BC,Av,AJ,AV,A8,Bool.false_and,h1,h2,h2i,h3,h3i,hw]
 have h3i:(us.length:Int)≤20:=by omega
 by_cases h4:w≤span
 ·simp +contextual (maxSteps:=4000000) only[↓bdD,bdP,Nat.reduceLT,Nat.reduceBEq,Ai,Nat.reduceAdd,st0,↓reduceIte,Try.f10,ty3,BC,Av,AJ,AV,A8,h1,h2,h2i,h3,h3i,h4,hw]
 ·by_cases h5:32<w
  ·simp +contextual (maxSteps:=4000000) only[↓bdD,bdP,Nat.reduceLT,Nat.reduceBEq,Ai,Nat.reduceAdd,st0,↓reduceIte,Try.f10,ty3,BC,Av,AJ,AV,A8,h1,h2,h2i,h3,h3i,h4,h5,hw]
  ·simp +contextual (maxSteps:=4000000) only[↓bdD,bdP,Nat.reduceLT,Nat.reduceBEq,Ai,Nat.reduceAdd,st0,↓reduceIte,Try.f10,ty3,BC,Av,AJ,AV,A8,h1,h2,h2i,h3,h3i,h4,h5,hw]
theorem Ah5:Abf:=Ah3 Ah4
noncomputable def J7:(Int)×(List Lnk)×(List Snd)×(Dem)×(Int)×(Int)→List PV:=fun (hn,ls,l,d,link,tick) => [.agg [I hn,Ax ls,AA l,I d.1,I d.2.1,I d.2.2.1,I d.2.2.2.1,I d.2.2.2.2],I link,I tick]
noncomputable def XT:(Int)×(List Lnk)×(List Snd)×(Dem)×(Int)×(Int)→PV:=fun (hn,ls,l,d,link,tick)=>I (Bb l link tick l.length)
def XU:(Int)×(List Lnk)×(List Snd)×(Dem)×(Int)×(Int)→Prop:=fun (hn,ls,l,d,link,tick)=>smB l
noncomputable def e_taken:Nat×Ent:=(49,.v (Ah J7 XT XU))
theorem zH:∀i j,J7 i=J7 j→i=j:=by
 rintro ⟨hn₁,ls₁,l₁,d₁,link₁,tick₁⟩ ⟨hn₂,ls₂,l₂,d₂,link₂,tick₂⟩ h
 simp only[J7,List.cons.injEq,and_true,PV.lits.injEq,PV.int.injEq,PV.agg.injEq,true_and,AN,AF]at h
 simp [Prod.ext_iff,h] <;> omega
theorem zI (hn:Int) (ls:List Lnk) (l:List Snd) (d:Dem) (link:Int) (tick:Int):Ah J7 XT XU [.agg [I hn,Ax ls,AA l,I d.1,I d.2.1,I d.2.2.1,I d.2.2.2.1,I d.2.2.2.2],I link,I tick]=@ite (Option (PV)) (smB l) (Classical.propDecidable _) (some (I (Bb l link tick l.length))) none:=BP zH (hn,ls,l,d,link,tick)
def XV:Prop:=∀(hn:Int) (ls:List Lnk) (l:List Snd) (d:Dem) (link:Int) (tick:Int) (h:smB l) ,VC Try.prog 49 [.agg [I hn,Ax ls,AA l,I d.1,I d.2.1,I d.2.2.1,I d.2.2.2.1,I d.2.2.2.2],I link,I tick] (I (Bb l link tick l.length))
def XW:Prop:=AL Try.prog e_taken.1 e_taken.2
theorem zJ (c:XV):XW:=At fun⟨hn,ls,l,d,link,tick⟩ h=>c hn ls l d link tick h
theorem zK:XV:=by
 intro hn ls l d link tick hb
 refine A5 AO (l := []) (Ao) [] []  Try.func49 rfl (by decide +kernel) (N:=43) rfl (by simp) rfl (by kernel_rfl) fun hs=>?_
 simp only[AI,PV.small,List.length_map,and_true,true_and]at hs
 have hlen:=hb.1
 generalize hr:Bb l link tick l.length=r
 simp +contextual (maxSteps:=4000000) only[↓bdD,bdP,Nat.reduceLT,Nat.reduceAdd,st0,↓reduceIte,Try.f49]
 refine Au [7,8,9,10,11,12,13,14,15,16,17,18,19,20,21,22,23,24,25,26,27,28,29,30,31,32,33,34,35,36,37,38,39,40,41] l.length (fun k ρ st'=>ρ 8=I k∧ρ 7=I (Bb l link tick k)) (.refl _) ?_ ?_
 ·simp +contextual (maxSteps:=4000000) only[↓bdD,bdP,Nat.reduceBEq,Bb]
 ·rintro k ρ ⟨ob,M⟩ hk ⟨h8,h7⟩
  by_cases hlt:k<l.length
  ·have hw1:IntKind.i64.wrap ((k:Int)+1)=((k+1:Nat):Int):=by rw[Af (by omega) (by omega)];omega
   have hs:=ME hb link tick k hk
   have hbk:=hb.2 k hlt
   have hstep:Bb l link tick (k+1)=Bb l link tick k+if (l.getD k dS).1=link∧(l.getD k dS).2.1=tick then (l.getD k dS).2.2 else 0:=rfl
   generalize hx:l.getD k dS=x at *
   by_cases e1:x.1=link
   ·by_cases e2:x.2.1=tick
    ·rw [if_pos ⟨e1,e2⟩]at hstep
     have hw2:IntKind.i64.wrap (Bb l link tick k+x.2.2)=Bb l link tick (k+1):=by rw[hstep,Af (by omega) (by omega)]
     simp +contextual (maxSteps:=4000000) only[↓bdD,bdP,Nat.reduceLT,Nat.reduceBEq,Nat.reduceAdd,↓reduceIte,AH,ty3,AJ,A8,BV,h8,h7,hlt,hx,e1,e2,hw1,hw2]
    ·rw [if_neg (fun h=>e2 h.2),Int.add_zero]at hstep
     simp +contextual (maxSteps:=4000000) only[↓bdD,bdP,Nat.reduceLT,Nat.reduceBEq,Nat.reduceAdd,↓reduceIte,AH,ty3,AJ,A8,BV,h8,h7,hlt,hx,e1,e2,hw1,hstep]
   ·rw [if_neg (fun h=>e1 h.1),Int.add_zero]at hstep
    simp +contextual (maxSteps:=4000000) only[↓bdD,bdP,Nat.reduceLT,Nat.reduceBEq,Nat.reduceAdd,↓reduceIte,AH,ty3,AJ,A8,BV,h8,h7,hlt,hx,e1,hw1,hstep]
  ·have e:k=l.length:=by omega
   subst e
   rw [hr]at h7
   simp +contextual (maxSteps:=4000000) only[↓bdD,bdP,Nat.reduceLT,Nat.reduceBEq,Ai,Nat.reduceAdd,↓reduceIte,AJ,A8,h8,h7]
theorem zL:XW:=zJ zK
noncomputable def J8:(Int)×(List Lnk)×(List Snd)×(Dem)×(Int)×(Int)→List PV:=fun (hn,ls,us,d,link,tick) => [.agg [I hn,Ax ls,AA us,I d.1,I d.2.1,I d.2.2.1,I d.2.2.2.1,I d.2.2.2.2],I link,I tick]
noncomputable def XX:(Int)×(List Lnk)×(List Snd)×(Dem)×(Int)×(Int)→PV:=fun (hn,ls,us,d,link,tick)=>I (lfM ls us link tick)
def XY:(Int)×(List Lnk)×(List Snd)×(Dem)×(Int)×(Int)→Prop:=fun (hn,ls,us,d,link,tick)=>Bz hn ls us=0∧0≤link∧link<(ls.length:Int)∧0≤tick
noncomputable def e_pleft:Nat×Ent:=(27,.v (Ah J8 XX XY))
theorem zM:∀i j,J8 i=J8 j→i=j:=by
 rintro ⟨hn₁,ls₁,us₁,d₁,link₁,tick₁⟩ ⟨hn₂,ls₂,us₂,d₂,link₂,tick₂⟩ h
 simp only[J8,List.cons.injEq,and_true,PV.lits.injEq,PV.int.injEq,PV.agg.injEq,true_and,AN,AF]at h
 simp [Prod.ext_iff,h] <;> omega
theorem zN (hn:Int) (ls:List Lnk) (us:List Snd) (d:Dem) (link:Int) (tick:Int):Ah J8 XX XY [.agg [I hn,Ax ls,AA us,I d.1,I d.2.1,I d.2.2.1,I d.2.2.2.1,I d.2.2.2.2],I link,I tick]=@ite (Option (PV)) (Bz hn ls us=0∧0≤link∧link<(ls.length:Int)∧0≤tick) (Classical.propDecidable _) (some (I (lfM ls us link tick))) none:=BP zM (hn,ls,us,d,link,tick)
def XZ:Prop:=∀(hn:Int) (ls:List Lnk) (us:List Snd) (d:Dem) (link:Int) (tick:Int) (h:Bz hn ls us=0∧0≤link∧link<(ls.length:Int)∧0≤tick) ,VC Try.prog 27 [.agg [I hn,Ax ls,AA us,I d.1,I d.2.1,I d.2.2.1,I d.2.2.2.1,I d.2.2.2.2],I link,I tick] (I (lfM ls us link tick))
def X0:Prop:=AL Try.prog e_pleft.1 e_pleft.2
theorem zO (c:XZ):X0:=At fun⟨hn,ls,us,d,link,tick⟩ h=>c hn ls us d link tick h
theorem zP:XZ:=by
 rintro hn ls us d link tick ⟨hf,h0,h1,h2⟩
 refine A5 AO (l := [e_rcap,e_taken]) ((Ad lH (Ad zL Ao))) [] []  Try.func27 rfl (by decide +kernel) (N:=19) rfl (by simp) rfl (by kernel_rfl) fun hs=>?_
 simp only[AI,PV.small,List.length_map,and_true,true_and]at hs
 obtain ⟨ok,_⟩:=B2 hf
 have q1:=E8 hf (k:=link) (t:=tick) ⟨h0,h1⟩
 have q2:=EH ok.net (link:=link) (tick:=tick) h0 h1
 have sp1:=Wj (hn:=hn) (ls:=ls) (link:=link) (tick:=tick)
 rw [if_pos ⟨h0,h1,h2⟩]at sp1
 have sp2:=zI (hn:=hn) (ls:=ls) (l:=us) (d:=d) (link:=link) (tick:=tick)
 rw [if_pos ok.smB]at sp2
 dsimp only[Ax,AA]at sp1 sp2
 unfold lfM
 generalize CT ls link tick=x at *
 generalize Bb us link tick us.length=z at *
 have w:IntKind.i64.wrap (x-z)=x-z:=Af (by omega) (by omega)
 simp +contextual (maxSteps:=4000000) only[↓bdD,bdP,Nat.reduceLT,Nat.reduceBEq,Ai,Nat.reduceEqDiff,Nat.reduceAdd,Nat.reduceLeDiff,st0,↓reduceIte,e_rcap,e_taken,Ac,Ab,Try.f27,ty3,Av,A8,sp1,sp2,w]
theorem zQ:X0:=zO zP
abbrev C8 (y:List (List Int)):PV:=.lits 1 (y.map ints)
theorem Bs {y:List (List Int)} {k:Nat} (h:k<y.length):nth (y.map ints) k=.lits 1 ((y.getD k []).map (PV.int .i64)):=Eh [] h
theorem Ci {y:List (List Int)}:AT (y.map ints)=true:=H1 fun x=>by rw[Mf,Hk]
theorem Fa {y z:List (List Int)}:(y.map ints=z.map ints)=(y=z):=H2 fun x y h=>by
 simp only[ints,PV.lits.injEq,true_and]at h
 rwa [DO]at h
theorem Pb {y:List (List Int)} (h:AI (y.map ints)) {k:Nat}:(y.getD k []).length≤9223372036854775807:=by
 induction y generalizing k with
 | nil=>simp
 | cons l y ih =>
  simp only[List.map_cons,AI,ints,PV.small]at h
  cases k with
  | zero=>simpa using h.1.1
  | succ k=>simpa using ih h.2 (k:=k)
end Sim
