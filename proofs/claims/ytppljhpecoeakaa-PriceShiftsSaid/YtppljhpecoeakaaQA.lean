/- What functions of this seat compute, by values: contracts (lemmas of the statement's proof, under the conditions that each names). -/
import Derived.Test.YtppljhpecoeakaaQXR
set_option maxRecDepth 10000
set_option maxHeartbeats 4000000
set_option linter.unusedVariables false
set_option linter.unusedSimpArgs false
namespace Sim
open Go Go.Proofs
attribute [local congr] Ap Aq Al AC As Ar Av
def CH (hn:Int) (ls:List Lnk) (us:List Snd) (d:Dem):Int:=if Dw hn ls us d≠0 then Dw hn ls us d else if 4194304<d.2.2.1 then 2 else 0
noncomputable def HJ:(Int)×(List Lnk)×(List Snd)×(Dem)→List PV:=fun (hn,ls,us,d) => [.agg [I hn,Az ls,AB us,I d.1,I d.2.1,I d.2.2.1,I d.2.2.2.1,I d.2.2.2.2]]
noncomputable def TJ:(Int)×(List Lnk)×(List Snd)×(Dem)→PV:=fun (hn,ls,us,d)=>I (CH hn ls us d)
def TK:(Int)×(List Lnk)×(List Snd)×(Dem)→Prop:=fun (hn,ls,us,d)=>True
noncomputable def e_pcheck:Nat×Ent:=(15,.v (Ah HJ TJ TK))
theorem nU:∀i j,HJ i=HJ j→i=j:=by
 rintro ⟨hn₁,ls₁,us₁,d₁⟩ ⟨hn₂,ls₂,us₂,d₂⟩ h
 simp only[HJ,List.cons.injEq,and_true,PV.lits.injEq,PV.int.injEq,PV.agg.injEq,true_and,AR,AG]at h
 simp [Prod.ext_iff,h] <;> omega
theorem BL (hn:Int) (ls:List Lnk) (us:List Snd) (d:Dem):Ah HJ TJ TK [.agg [I hn,Az ls,AB us,I d.1,I d.2.1,I d.2.2.1,I d.2.2.2.1,I d.2.2.2.2]]=some (I (CH hn ls us d)):=AA nU (i:=(hn,ls,us,d)) trivial
def TL:Prop:=∀(hn:Int) (ls:List Lnk) (us:List Snd) (d:Dem) ,VC Try.prog 15 [.agg [I hn,Az ls,AB us,I d.1,I d.2.1,I d.2.2.1,I d.2.2.2.1,I d.2.2.2.2]] (I (CH hn ls us d))
def TM:Prop:=AM Try.prog e_pcheck.1 e_pcheck.2
theorem nV (c:TL):TM:=At fun⟨hn,ls,us,d⟩ h=>c hn ls us d
theorem nW:TL:=by
 intro hn ls us d
 refine A5 AP (l := [e_fcheck]) ((Ae TH Ao)) [] []  Try.func15 rfl (by decide +kernel) (N:=18) rfl (by simp) rfl (by kernel_rfl) fun hs=>?_
 simp only[AI,PV.small,List.length_map,and_true,true_and]at hs
 unfold CH
 by_cases h1:Dw hn ls us d=0
 case neg =>
  rw [if_pos h1]
  have sp:=HH (hn:=hn) (ls:=ls) (us:=us) (d:=d)
  dsimp only[Cr,Az,AB]at sp
  generalize hr:Dw hn ls us d=r at *
  simp +contextual (maxSteps:=4000000) only[↓bdD,bdP,Nat.reduceLT,Nat.reduceBEq,Ai,Nat.reduceAdd,Nat.reduceLeDiff,st0,↓reduceIte,e_fcheck,Ac,Ab,Try.f15,Aw,AJ,AX,Bk,h1,sp]
 rw [if_neg (fun g=>g h1)]
 have sp:=HH (hn:=hn) (ls:=ls) (us:=us) (d:=d)
 rw [h1]at sp
 dsimp only[Cr,Az,AB]at sp
 by_cases h2:4194304<d.2.2.1
 ·rw [if_pos h2]
  simp +contextual (maxSteps:=4000000) only[↓bdD,bdP,Nat.reduceLT,Nat.reduceBEq,Ai,Nat.reduceAdd,Nat.reduceLeDiff,st0,↓reduceIte,e_fcheck,Ac,Ab,Try.f15,ty3,Aw,AJ,AX,Bk,h2,sp]
 ·rw [if_neg h2]
  simp +contextual (maxSteps:=4000000) only[↓bdD,bdP,Nat.reduceLT,Nat.reduceBEq,Ai,Nat.reduceAdd,Nat.reduceLeDiff,st0,↓reduceIte,e_fcheck,Ac,Ab,Try.f15,ty3,Aw,AJ,AX,Bk,h2,sp]
theorem HK:TM:=nV nW
noncomputable def F7:(Int)×(List Lnk)×(List Snd)×(Dem)→List PV:=fun (hn,ls,us,d) => [.agg [I hn,Az ls,AB us,I d.1,I d.2.1,I d.2.2.1,I d.2.2.2.1,I d.2.2.2.2]]
noncomputable def Pc:(Int)×(List Lnk)×(List Snd)×(Dem)→PV:=fun (hn,ls,us,d)=>I (CH hn ls us d)
def Pd:(Int)×(List Lnk)×(List Snd)×(Dem)→Prop:=fun (hn,ls,us,d)=>True
noncomputable def e_rpcheck:Nat×Ent:=(16,.v (Ah F7 Pc Pd))
theorem bY:∀i j,F7 i=F7 j→i=j:=by
 rintro ⟨hn₁,ls₁,us₁,d₁⟩ ⟨hn₂,ls₂,us₂,d₂⟩ h
 simp only[F7,List.cons.injEq,and_true,PV.lits.injEq,PV.int.injEq,PV.agg.injEq,true_and,AR,AG]at h
 simp [Prod.ext_iff,h] <;> omega
theorem Ii (hn:Int) (ls:List Lnk) (us:List Snd) (d:Dem):Ah F7 Pc Pd [.agg [I hn,Az ls,AB us,I d.1,I d.2.1,I d.2.2.1,I d.2.2.2.1,I d.2.2.2.2]]=some (I (CH hn ls us d)):=AA bY (i:=(hn,ls,us,d)) trivial
def Pe:Prop:=∀(hn:Int) (ls:List Lnk) (us:List Snd) (d:Dem) ,VC Try.prog 16 [.agg [I hn,Az ls,AB us,I d.1,I d.2.1,I d.2.2.1,I d.2.2.2.1,I d.2.2.2.2]] (I (CH hn ls us d))
def Pf:Prop:=AM Try.prog e_rpcheck.1 e_rpcheck.2
theorem bZ (c:Pe):Pf:=At fun⟨hn,ls,us,d⟩ h=>c hn ls us d
theorem cA:Pe:=by
 intro hn ls us d
 refine A5 AP (l := [e_rfcheck]) ((Ae bV Ao)) [] []  Try.func16 rfl (by decide +kernel) (N:=18) rfl (by simp) rfl (by kernel_rfl) fun hs=>?_
 simp only[AI,PV.small,List.length_map,and_true,true_and]at hs
 unfold CH
 by_cases h1:Dw hn ls us d=0
 case neg =>
  rw [if_pos h1]
  have sp:=OY (hn:=hn) (ls:=ls) (us:=us) (d:=d)
  dsimp only[Cr,Az,AB]at sp
  generalize hr:Dw hn ls us d=r at *
  simp +contextual (maxSteps:=4000000) only[↓bdD,bdP,Nat.reduceLT,Nat.reduceBEq,Ai,Nat.reduceAdd,Nat.reduceLeDiff,st0,↓reduceIte,e_rfcheck,Ac,Ab,Try.f16,Aw,AJ,AX,Bk,h1,sp]
 rw [if_neg (fun g=>g h1)]
 have sp:=OY (hn:=hn) (ls:=ls) (us:=us) (d:=d)
 rw [h1]at sp
 dsimp only[Cr,Az,AB]at sp
 by_cases h2:4194304<d.2.2.1
 ·rw [if_pos h2]
  simp +contextual (maxSteps:=4000000) only[↓bdD,bdP,Nat.reduceLT,Nat.reduceBEq,Ai,Nat.reduceAdd,Nat.reduceLeDiff,st0,↓reduceIte,e_rfcheck,Ac,Ab,Try.f16,ty3,Aw,AJ,AX,Bk,h2,sp]
 ·rw [if_neg h2]
  simp +contextual (maxSteps:=4000000) only[↓bdD,bdP,Nat.reduceLT,Nat.reduceBEq,Ai,Nat.reduceAdd,Nat.reduceLeDiff,st0,↓reduceIte,e_rfcheck,Ac,Ab,Try.f16,ty3,Aw,AJ,AX,Bk,h2,sp]
theorem cB:Pf:=bZ cA
def cC (hn:Int) (ls:List Lnk) (us:List Snd) (d:Dem) (span:Int):Bool:=decide (hn≤5)&&(decide (ls.length≤8)&&(decide (us.length≤20)&&(decide (IntKind.i64.wrap (d.2.2.2.2-d.2.2.2.1)≤span)||decide (32<IntKind.i64.wrap (d.2.2.2.2-d.2.2.2.1)))))
noncomputable def TO:(Int)×(List Lnk)×(List Snd)×(Dem)×(Int)→List PV:=fun (hn,ls,us,d,span) => [.agg [I hn,Az ls,AB us,I d.1,I d.2.1,I d.2.2.1,I d.2.2.2.1,I d.2.2.2.2],I span]
noncomputable def Abg:(Int)×(List Lnk)×(List Snd)×(Dem)×(Int)→PV:=fun (hn,ls,us,d,span)=>B (cC hn ls us d span)
def Abh:(Int)×(List Lnk)×(List Snd)×(Dem)×(Int)→Prop:=fun (hn,ls,us,d,span)=>True
noncomputable def e_few:Nat×Ent:=(10,.v (Ah TO Abg Abh))
theorem Ah8:∀i j,TO i=TO j→i=j:=by
 rintro ⟨hn₁,ls₁,us₁,d₁,span₁⟩ ⟨hn₂,ls₂,us₂,d₂,span₂⟩ h
 simp only[TO,List.cons.injEq,and_true,PV.lits.injEq,PV.int.injEq,PV.agg.injEq,true_and,AR,AG]at h
 simp [Prod.ext_iff,h] <;> omega
theorem TP (hn:Int) (ls:List Lnk) (us:List Snd) (d:Dem) (span:Int):Ah TO Abg Abh [.agg [I hn,Az ls,AB us,I d.1,I d.2.1,I d.2.2.1,I d.2.2.2.1,I d.2.2.2.2],I span]=some (B (cC hn ls us d span)):=AA Ah8 (i:=(hn,ls,us,d,span)) trivial
def Abi:Prop:=∀(hn:Int) (ls:List Lnk) (us:List Snd) (d:Dem) (span:Int) ,VC Try.prog 10 [.agg [I hn,Az ls,AB us,I d.1,I d.2.1,I d.2.2.1,I d.2.2.2.1,I d.2.2.2.2],I span] (B (cC hn ls us d span))
def Abj:Prop:=AM Try.prog e_few.1 e_few.2
theorem Ah9 (c:Abi):Abj:=At fun⟨hn,ls,us,d,span⟩ h=>c hn ls us d span
theorem Aia:Abi:=by
 intro hn ls us d span
 refine A5 AP (l := []) (Ao) [] []  Try.func10 rfl (by decide +kernel) (N:=39) rfl (by simp) rfl (by kernel_rfl) fun hs=>?_
 simp only[AI,PV.small,List.length_map,and_true,true_and]at hs
 unfold cC
 generalize hw:IntKind.i64.wrap (d.2.2.2.2-d.2.2.2.1)=w at *
 by_cases h1:hn≤5
 case neg=>simp +contextual (maxSteps:=4000000) only[↓bdD,bdP,Nat.reduceLT,Nat.reduceBEq,Ai,Nat.reduceAdd,st0,↓reduceIte,Try.f10,ty3,Aw,AX,Bk,Bool.false_and,h1,hw]
 by_cases h2:ls.length≤8
 case neg =>
  have h2i:¬(ls.length:Int)≤8:=by omega
  simp +contextual (maxSteps:=4000000) only[↓bdD,bdP,Nat.reduceLT,Nat.reduceBEq,Ai,Nat.reduceAdd,st0,↓reduceIte,Try.f10,ty3,By,Aw,AX,Bk,Bool.false_and,h1,h2,h2i,hw]
 have h2i:(ls.length:Int)≤8:=by omega
 by_cases h3:us.length≤20
 case neg =>
  have h3i:¬(us.length:Int)≤20:=by omega
  simp +contextual (maxSteps:=4000000) only[↓bdD,bdP,Nat.reduceLT,Nat.reduceBEq,Ai,Nat.reduceAdd,st0,↓reduceIte,Try.f10,ty3,By,Aw,AJ,AX,Bk,Bool.false_and,h1,h2,h2i,h3,h3i,hw]
 have h3i:(us.length:Int)≤20:=by omega
 by_cases h4:w≤span
 ·simp +contextual (maxSteps:=4000000) only[↓bdD,bdP,Nat.reduceLT,Nat.reduceBEq,Ai,Nat.reduceAdd,st0,↓reduceIte,Try.f10,ty3,By,Aw,AJ,AX,Bk,h1,h2,h2i,h3,h3i,h4,hw]
 ·by_cases h5:32<w
  ·simp +contextual (maxSteps:=4000000) only[↓bdD,bdP,Nat.reduceLT,Nat.reduceBEq,Ai,Nat.reduceAdd,st0,↓reduceIte,Try.f10,ty3,By,Aw,AJ,AX,Bk,h1,h2,h2i,h3,h3i,h4,h5,hw]
  ·simp +contextual (maxSteps:=4000000) only[↓bdD,bdP,Nat.reduceLT,Nat.reduceBEq,Ai,Nat.reduceAdd,st0,↓reduceIte,Try.f10,ty3,By,Aw,AJ,AX,Bk,h1,h2,h2i,h3,h3i,h4,h5,hw]
theorem Aib:Abj:=Ah9 Aia
noncomputable def Kd:(Int)×(List Lnk)×(List Snd)×(Dem)×(Int)×(Int)→List PV:=fun (hn,ls,l,d,link,tick) => [.agg [I hn,Az ls,AB l,I d.1,I d.2.1,I d.2.2.1,I d.2.2.2.1,I d.2.2.2.2],I link,I tick]
noncomputable def XR:(Int)×(List Lnk)×(List Snd)×(Dem)×(Int)×(Int)→PV:=fun (hn,ls,l,d,link,tick)=>I (A9 l link tick l.length)
def XS:(Int)×(List Lnk)×(List Snd)×(Dem)×(Int)×(Int)→Prop:=fun (hn,ls,l,d,link,tick)=>smB l
noncomputable def e_taken:Nat×Ent:=(49,.v (Ah Kd XR XS))
theorem zL:∀i j,Kd i=Kd j→i=j:=by
 rintro ⟨hn₁,ls₁,l₁,d₁,link₁,tick₁⟩ ⟨hn₂,ls₂,l₂,d₂,link₂,tick₂⟩ h
 simp only[Kd,List.cons.injEq,and_true,PV.lits.injEq,PV.int.injEq,PV.agg.injEq,true_and,AR,AG]at h
 simp [Prod.ext_iff,h] <;> omega
theorem zM (hn:Int) (ls:List Lnk) (l:List Snd) (d:Dem) (link:Int) (tick:Int):Ah Kd XR XS [.agg [I hn,Az ls,AB l,I d.1,I d.2.1,I d.2.2.1,I d.2.2.2.1,I d.2.2.2.2],I link,I tick]=@ite (Option (PV)) (smB l) (Classical.propDecidable _) (some (I (A9 l link tick l.length))) none:=BV zL (hn,ls,l,d,link,tick)
def XT:Prop:=∀(hn:Int) (ls:List Lnk) (l:List Snd) (d:Dem) (link:Int) (tick:Int) (h:smB l) ,VC Try.prog 49 [.agg [I hn,Az ls,AB l,I d.1,I d.2.1,I d.2.2.1,I d.2.2.2.1,I d.2.2.2.2],I link,I tick] (I (A9 l link tick l.length))
def XU:Prop:=AM Try.prog e_taken.1 e_taken.2
theorem zN (c:XT):XU:=At fun⟨hn,ls,l,d,link,tick⟩ h=>c hn ls l d link tick h
theorem zO:XT:=by
 intro hn ls l d link tick hb
 refine A5 AP (l := []) (Ao) [] []  Try.func49 rfl (by decide +kernel) (N:=43) rfl (by simp) rfl (by kernel_rfl) fun hs=>?_
 simp only[AI,PV.small,List.length_map,and_true,true_and]at hs
 have hlen:=hb.1
 generalize hr:A9 l link tick l.length=r
 simp +contextual (maxSteps:=4000000) only[↓bdD,bdP,Nat.reduceLT,Nat.reduceAdd,st0,↓reduceIte,Try.f49]
 refine Ax [7,8,9,10,11,12,13,14,15,16,17,18,19,20,21,22,23,24,25,26,27,28,29,30,31,32,33,34,35,36,37,38,39,40,41] l.length (fun k ρ st'=>ρ 8=I k∧ρ 7=I (A9 l link tick k)) (.refl _) ?_ ?_
 ·simp +contextual (maxSteps:=4000000) only[↓bdD,bdP,Nat.reduceBEq,A9]
 ·rintro k ρ ⟨ob,M⟩ hk ⟨h8,h7⟩
  by_cases hlt:k<l.length
  ·have hw1:IntKind.i64.wrap ((k:Int)+1)=((k+1:Nat):Int):=by rw[Ag (by omega) (by omega)];omega
   have hs:=MJ hb link tick k hk
   have hbk:=hb.2 k hlt
   have hstep:A9 l link tick (k+1)=A9 l link tick k+if (l.getD k dS).1=link∧(l.getD k dS).2.1=tick then (l.getD k dS).2.2 else 0:=rfl
   generalize hx:l.getD k dS=x at *
   by_cases e1:x.1=link
   ·by_cases e2:x.2.1=tick
    ·rw [if_pos ⟨e1,e2⟩]at hstep
     have hw2:IntKind.i64.wrap (A9 l link tick k+x.2.2)=A9 l link tick (k+1):=by rw[hstep,Ag (by omega) (by omega)]
     simp +contextual (maxSteps:=4000000) only[↓bdD,bdP,Nat.reduceLT,Nat.reduceBEq,Nat.reduceAdd,↓reduceIte,AH,ty3,AJ,Bk,BU,h8,h7,hlt,hx,e1,e2,hw1,hw2]
    ·rw [if_neg (fun h=>e2 h.2),Int.add_zero]at hstep
     simp +contextual (maxSteps:=4000000) only[↓bdD,bdP,Nat.reduceLT,Nat.reduceBEq,Nat.reduceAdd,↓reduceIte,AH,ty3,AJ,Bk,BU,h8,h7,hlt,hx,e1,e2,hw1,hstep]
   ·rw [if_neg (fun h=>e1 h.1),Int.add_zero]at hstep
    simp +contextual (maxSteps:=4000000) only[↓bdD,bdP,Nat.reduceLT,Nat.reduceBEq,Nat.reduceAdd,↓reduceIte,AH,ty3,AJ,Bk,BU,h8,h7,hlt,hx,e1,hw1,hstep]
  ·have e:k=l.length:=by omega
   subst e
   rw [hr]at h7
   simp +contextual (maxSteps:=4000000) only[↓bdD,bdP,Nat.reduceLT,Nat.reduceBEq,Ai,Nat.reduceAdd,↓reduceIte,AJ,Bk,h8,h7]
theorem zP:XU:=zN zO
noncomputable def Ke:(Int)×(List Lnk)×(List Snd)×(Dem)×(Int)×(Int)→List PV:=fun (hn,ls,us,d,link,tick) => [.agg [I hn,Az ls,AB us,I d.1,I d.2.1,I d.2.2.1,I d.2.2.2.1,I d.2.2.2.2],I link,I tick]
noncomputable def XV:(Int)×(List Lnk)×(List Snd)×(Dem)×(Int)×(Int)→PV:=fun (hn,ls,us,d,link,tick)=>I (lfM ls us link tick)
def XW:(Int)×(List Lnk)×(List Snd)×(Dem)×(Int)×(Int)→Prop:=fun (hn,ls,us,d,link,tick)=>Bz hn ls us=0∧0≤link∧link<(ls.length:Int)∧0≤tick
noncomputable def e_pleft:Nat×Ent:=(27,.v (Ah Ke XV XW))
theorem zQ:∀i j,Ke i=Ke j→i=j:=by
 rintro ⟨hn₁,ls₁,us₁,d₁,link₁,tick₁⟩ ⟨hn₂,ls₂,us₂,d₂,link₂,tick₂⟩ h
 simp only[Ke,List.cons.injEq,and_true,PV.lits.injEq,PV.int.injEq,PV.agg.injEq,true_and,AR,AG]at h
 simp [Prod.ext_iff,h] <;> omega
theorem QX (hn:Int) (ls:List Lnk) (us:List Snd) (d:Dem) (link:Int) (tick:Int):Ah Ke XV XW [.agg [I hn,Az ls,AB us,I d.1,I d.2.1,I d.2.2.1,I d.2.2.2.1,I d.2.2.2.2],I link,I tick]=@ite (Option (PV)) (Bz hn ls us=0∧0≤link∧link<(ls.length:Int)∧0≤tick) (Classical.propDecidable _) (some (I (lfM ls us link tick))) none:=BV zQ (hn,ls,us,d,link,tick)
def XX:Prop:=∀(hn:Int) (ls:List Lnk) (us:List Snd) (d:Dem) (link:Int) (tick:Int) (h:Bz hn ls us=0∧0≤link∧link<(ls.length:Int)∧0≤tick) ,VC Try.prog 27 [.agg [I hn,Az ls,AB us,I d.1,I d.2.1,I d.2.2.1,I d.2.2.2.1,I d.2.2.2.2],I link,I tick] (I (lfM ls us link tick))
def XY:Prop:=AM Try.prog e_pleft.1 e_pleft.2
theorem zR (c:XX):XY:=At fun⟨hn,ls,us,d,link,tick⟩ h=>c hn ls us d link tick h
theorem zS:XX:=by
 rintro hn ls us d link tick ⟨hf,h0,h1,h2⟩
 refine A5 AP (l := [e_rcap,e_taken]) ((Ae lL (Ae zP Ao))) [] []  Try.func27 rfl (by decide +kernel) (N:=19) rfl (by simp) rfl (by kernel_rfl) fun hs=>?_
 simp only[AI,PV.small,List.length_map,and_true,true_and]at hs
 obtain ⟨ok,_⟩:=B8 hf
 have q1:=Fg hf (k:=link) (t:=tick) ⟨h0,h1⟩
 have q2:=Ej ok.net (link:=link) (tick:=tick) h0 h1
 have sp1:=Wg (hn:=hn) (ls:=ls) (link:=link) (tick:=tick)
 rw [if_pos ⟨h0,h1,h2⟩]at sp1
 have sp2:=zM (hn:=hn) (ls:=ls) (l:=us) (d:=d) (link:=link) (tick:=tick)
 rw [if_pos ok.smB]at sp2
 dsimp only[Az,AB]at sp1 sp2
 unfold lfM
 generalize Cp ls link tick=x at *
 generalize A9 us link tick us.length=z at *
 have w:IntKind.i64.wrap (x-z)=x-z:=Ag (by omega) (by omega)
 simp +contextual (maxSteps:=4000000) only[↓bdD,bdP,Nat.reduceLT,Nat.reduceBEq,Ai,Nat.reduceEqDiff,Nat.reduceAdd,Nat.reduceLeDiff,st0,↓reduceIte,e_rcap,e_taken,Ac,Ab,Try.f27,ty3,Aw,Bk,sp1,sp2,w]
theorem zT:XY:=zR zS
abbrev DK (y:List (List Int)):PV:=.lits 1 (y.map ints)
theorem CD {y:List (List Int)} {k:Nat} (h:k<y.length):nth (y.map ints) k=.lits 1 ((y.getD k []).map (PV.int .i64)):=DQ [] h
theorem BT {y:List (List Int)}:AN (y.map ints)=true:=H2 fun x=>by rw[Mi,EZ]
theorem HL {y z:List (List Int)}:(y.map ints=z.map ints)=(y=z):=H3 fun x y h=>by
 simp only[ints,PV.lits.injEq,true_and]at h
 rwa [DP]at h
theorem cD {y:List (List Int)} (h:AI (y.map ints)) {k:Nat}:(y.getD k []).length≤9223372036854775807:=by
 induction y generalizing k with
 | nil=>simp
 | cons l y ih =>
  simp only[List.map_cons,AI,ints,PV.small]at h
  cases k with
  | zero=>simpa using h.1.1
  | succ k=>simpa using ih h.2 (k:=k)
end Sim
