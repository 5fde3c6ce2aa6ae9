/- What functions of this seat compute, by values: contracts (lemmas of the statement's proof, under the conditions that each names). -/
import Derived.Test.YtppljhpecoeakaaQXR
import Derived.Test.YtppljhpecoeakaaQC
set_option maxRecDepth 10000
set_option maxHeartbeats 4000000
set_option linter.unusedVariables false
set_option linter.unusedSimpArgs false
namespace Sim
open Go Go.Proofs
attribute [local congr] As At Am AI Av Au AA
def CF (hn:Int) (ls:List Lnk) (us:List Snd) (d:Dem):Int:=if DB hn ls us d≠0 then DB hn ls us d else if 4194304<d.2.2.1 then 2 else 0
noncomputable def HM:(Int)×(List Lnk)×(List Snd)×(Dem)→List PV:=fun (hn,ls,us,d) => [.agg [I hn,Ax ls,Aw us,I d.1,I d.2.1,I d.2.2.1,I d.2.2.2.1,I d.2.2.2.2]]
noncomputable def T1:(Int)×(List Lnk)×(List Snd)×(Dem)→PV:=fun (hn,ls,us,d)=>I (CF hn ls us d)
def T3:(Int)×(List Lnk)×(List Snd)×(Dem)→Prop:=fun (hn,ls,us,d)=>True
noncomputable def e_pcheck:Nat×Ent:=(15,.v (Ag HM T1 T3))
theorem pI:∀i j,HM i=HM j→i=j:=by
 rintro ⟨hn₁,ls₁,us₁,d₁⟩ ⟨hn₂,ls₂,us₂,d₂⟩ h
 simp only[HM,List.cons.injEq,and_true,PV.lits.injEq,PV.int.injEq,PV.agg.injEq,true_and,AK,AD]at h
 simp [Prod.ext_iff,h] <;> omega
theorem BT (hn:Int) (ls:List Lnk) (us:List Snd) (d:Dem):Ag HM T1 T3 [.agg [I hn,Ax ls,Aw us,I d.1,I d.2.1,I d.2.2.1,I d.2.2.2.1,I d.2.2.2.2]]=some (I (CF hn ls us d)):=Az pI (i:=(hn,ls,us,d)) trivial
def T4:Prop:=∀(hn:Int) (ls:List Lnk) (us:List Snd) (d:Dem) ,VC Try.prog 15 [.agg [I hn,Ax ls,Aw us,I d.1,I d.2.1,I d.2.2.1,I d.2.2.2.1,I d.2.2.2.2]] (I (CF hn ls us d))
def T5:Prop:=AM Try.prog e_pcheck.1 e_pcheck.2
theorem pJ (c:T4):T5:=Ao fun⟨hn,ls,us,d⟩ h=>c hn ls us d
theorem pK:T4:=by
 intro hn ls us d
 refine AW AO (l := [e_fcheck]) ((Ad TZ An)) [] []  Try.func15 rfl (by decide +kernel) (N:=18) rfl (by simp) rfl (by kernel_rfl) fun hs=>?_
 simp only[AH,PV.small,List.length_map,and_true,true_and]at hs
 unfold CF
 by_cases h1:DB hn ls us d=0
 case neg =>
  rw [if_pos h1]
  have sp:=HK (hn:=hn) (ls:=ls) (us:=us) (d:=d)
  dsimp only[B6,Ax,Aw]at sp
  generalize hr:DB hn ls us d=r at *
  simp +contextual (maxSteps:=4000000) only[↓bdD,bdP,Nat.reduceLT,Nat.reduceBEq,Ai,Nat.reduceAdd,Nat.reduceLeDiff,st0,↓reduceIte,e_fcheck,Ac,Ab,Try.f15,Aq,AB,AP,A6,h1,sp]
 rw [if_neg (fun g=>g h1)]
 have sp:=HK (hn:=hn) (ls:=ls) (us:=us) (d:=d)
 rw [h1]at sp
 dsimp only[B6,Ax,Aw]at sp
 by_cases h2:4194304<d.2.2.1
 ·rw [if_pos h2]
  simp +contextual (maxSteps:=4000000) only[↓bdD,bdP,Nat.reduceLT,Nat.reduceBEq,Ai,Nat.reduceAdd,Nat.reduceLeDiff,st0,↓reduceIte,e_fcheck,Ac,Ab,Try.f15,ty3,Aq,AB,AP,A6,h2,sp]
 ·rw [if_neg h2]
  simp +contextual (maxSteps:=4000000) only[↓bdD,bdP,Nat.reduceLT,Nat.reduceBEq,Ai,Nat.reduceAdd,Nat.reduceLeDiff,st0,↓reduceIte,e_fcheck,Ac,Ab,Try.f15,ty3,Aq,AB,AP,A6,h2,sp]
theorem HN:T5:=pJ pK
noncomputable def F6:(Int)×(List Lnk)×(List Snd)×(Dem)→List PV:=fun (hn,ls,us,d) => [.agg [I hn,Ax ls,Aw us,I d.1,I d.2.1,I d.2.2.1,I d.2.2.2.1,I d.2.2.2.2]]
noncomputable def Pn:(Int)×(List Lnk)×(List Snd)×(Dem)→PV:=fun (hn,ls,us,d)=>I (CF hn ls us d)
def Po:(Int)×(List Lnk)×(List Snd)×(Dem)→Prop:=fun (hn,ls,us,d)=>True
noncomputable def e_rpcheck:Nat×Ent:=(16,.v (Ag F6 Pn Po))
theorem dN:∀i j,F6 i=F6 j→i=j:=by
 rintro ⟨hn₁,ls₁,us₁,d₁⟩ ⟨hn₂,ls₂,us₂,d₂⟩ h
 simp only[F6,List.cons.injEq,and_true,PV.lits.injEq,PV.int.injEq,PV.agg.injEq,true_and,AK,AD]at h
 simp [Prod.ext_iff,h] <;> omega
theorem K2 (hn:Int) (ls:List Lnk) (us:List Snd) (d:Dem):Ag F6 Pn Po [.agg [I hn,Ax ls,Aw us,I d.1,I d.2.1,I d.2.2.1,I d.2.2.2.1,I d.2.2.2.2]]=some (I (CF hn ls us d)):=Az dN (i:=(hn,ls,us,d)) trivial
def Pp:Prop:=∀(hn:Int) (ls:List Lnk) (us:List Snd) (d:Dem) ,VC Try.prog 16 [.agg [I hn,Ax ls,Aw us,I d.1,I d.2.1,I d.2.2.1,I d.2.2.2.1,I d.2.2.2.2]] (I (CF hn ls us d))
def Pq:Prop:=AM Try.prog e_rpcheck.1 e_rpcheck.2
theorem dO (c:Pp):Pq:=Ao fun⟨hn,ls,us,d⟩ h=>c hn ls us d
theorem dP:Pp:=by
 intro hn ls us d
 refine AW AO (l := [e_rfcheck]) ((Ad dJ An)) [] []  Try.func16 rfl (by decide +kernel) (N:=18) rfl (by simp) rfl (by kernel_rfl) fun hs=>?_
 simp only[AH,PV.small,List.length_map,and_true,true_and]at hs
 unfold CF
 by_cases h1:DB hn ls us d=0
 case neg =>
  rw [if_pos h1]
  have sp:=Pi (hn:=hn) (ls:=ls) (us:=us) (d:=d)
  dsimp only[B6,Ax,Aw]at sp
  generalize hr:DB hn ls us d=r at *
  simp +contextual (maxSteps:=4000000) only[↓bdD,bdP,Nat.reduceLT,Nat.reduceBEq,Ai,Nat.reduceAdd,Nat.reduceLeDiff,st0,↓reduceIte,e_rfcheck,Ac,Ab,Try.f16,Aq,AB,AP,A6,h1,sp]
 rw [if_neg (fun g=>g h1)]
 have sp:=Pi (hn:=hn) (ls:=ls) (us:=us) (d:=d)
 rw [h1]at sp
 dsimp only[B6,Ax,Aw]at sp
 by_cases h2:4194304<d.2.2.1
 ·rw [if_pos h2]
  simp +contextual (maxSteps:=4000000) only[↓bdD,bdP,Nat.reduceLT,Nat.reduceBEq,Ai,Nat.reduceAdd,Nat.reduceLeDiff,st0,↓reduceIte,e_rfcheck,Ac,Ab,Try.f16,ty3,Aq,AB,AP,A6,h2,sp]
 ·rw [if_neg h2]
  simp +contextual (maxSteps:=4000000) only[↓bdD,bdP,Nat.reduceLT,Nat.reduceBEq,Ai,Nat.reduceAdd,Nat.reduceLeDiff,st0,↓reduceIte,e_rfcheck,Ac,Ab,Try.f16,ty3,Aq,AB,AP,A6,h2,sp]
theorem dQ:Pq:=dO dP
def pL (hn:Int) (ls:List Lnk) (us:List Snd) (d:Dem) (span:Int):Bool:=decide (hn≤5)&&(decide (ls.length≤8)&&(decide (us.length≤20)&&(decide (IntKind.i64.wrap (d.2.2.2.2-d.2.2.2.1)≤span)||decide (32<IntKind.i64.wrap (d.2.2.2.2-d.2.2.2.1)))))
noncomputable def T6:(Int)×(List Lnk)×(List Snd)×(Dem)×(Int)→List PV:=fun (hn,ls,us,d,span) => [.agg [I hn,Ax ls,Aw us,I d.1,I d.2.1,I d.2.2.1,I d.2.2.2.1,I d.2.2.2.2],I span]
noncomputable def Acm:(Int)×(List Lnk)×(List Snd)×(Dem)×(Int)→PV:=fun (hn,ls,us,d,span)=>B (pL hn ls us d span)
def Acn:(Int)×(List Lnk)×(List Snd)×(Dem)×(Int)→Prop:=fun (hn,ls,us,d,span)=>True
noncomputable def e_few:Nat×Ent:=(10,.v (Ag T6 Acm Acn))
theorem Ajj:∀i j,T6 i=T6 j→i=j:=by
 rintro ⟨hn₁,ls₁,us₁,d₁,span₁⟩ ⟨hn₂,ls₂,us₂,d₂,span₂⟩ h
 simp only[T6,List.cons.injEq,and_true,PV.lits.injEq,PV.int.injEq,PV.agg.injEq,true_and,AK,AD]at h
 simp [Prod.ext_iff,h] <;> omega
theorem T7 (hn:Int) (ls:List Lnk) (us:List Snd) (d:Dem) (span:Int):Ag T6 Acm Acn [.agg [I hn,Ax ls,Aw us,I d.1,I d.2.1,I d.2.2.1,I d.2.2.2.1,I d.2.2.2.2],I span]=some (B (pL hn ls us d span)):=Az Ajj (i:=(hn,ls,us,d,span)) trivial
def Aco:Prop:=∀(hn:Int) (ls:List Lnk) (us:List Snd) (d:Dem) (span:Int) ,VC Try.prog 10 [.agg [I hn,Ax ls,Aw us,I d.1,I d.2.1,I d.2.2.1,I d.2.2.2.1,I d.2.2.2.2],I span] (B (pL hn ls us d span))
def Acp:Prop:=AM Try.prog e_few.1 e_few.2
theorem Ajk (c:Aco):Acp:=Ao fun⟨hn,ls,us,d,span⟩ h=>c hn ls us d span
theorem Ajl:Aco:=by
 intro hn ls us d span
 refine AW AO (l := []) (An) [] []  Try.func10 rfl (by decide +kernel) (N:=39) rfl (by simp) rfl (by kernel_rfl) fun hs=>?_
 simp only[AH,PV.small,List.length_map,and_true,true_and]at hs
 unfold pL
 generalize hw:IntKind.i64.wrap (d.2.2.2.2-d.2.2.2.1)=w at *
 by_cases h1:hn≤5
 case neg=>simp +contextual (maxSteps:=4000000) only[↓bdD,bdP,Nat.reduceLT,Nat.reduceBEq,Ai,Nat.reduceAdd,st0,↓reduceIte,Try.f10,ty3,Aq,AP,A6,Bool.false_and,h1,hw]
 by_cases h2:ls.length≤8
 case neg =>
  have h2i:¬(ls.length:Int)≤8:=by omega
  simp +contextual (maxSteps:=4000000) only[↓bdD,bdP,Nat.reduceLT,Nat.reduceBEq,Ai,Nat.reduceAdd,st0,↓reduceIte,Try.f10,ty3,Bq,Aq,AP,A6,Bool.false_and,h1,h2,h2i,hw]
 have h2i:(ls.length:Int)≤8:=by omega
 by_cases h3:us.length≤20
 case neg =>
  have h3i:¬(us.length:Int)≤20:=by omega
  simp +contextual (maxSteps:=4000000) only[↓bdD,bdP,Nat.reduceLT,Nat.reduceBEq,Ai,Nat.reduceAdd,st0,↓reduceIte,Try.f10,ty3,Bq,Aq,AB,AP,A6,Bool.false_and,h1,h2,h2i,h3,h3i,hw]
 have h3i:(us.length:Int)≤20:=by omega
 by_cases h4:w≤span
 ·simp +contextual (maxSteps:=4000000) only[↓bdD,bdP,Nat.reduceLT,Nat.reduceBEq,Ai,Nat.reduceAdd,st0,↓reduceIte,Try.f10,ty3,Bq,Aq,AB,AP,A6,h1,h2,h2i,h3,h3i,h4,hw]
 ·by_cases h5:32<w
  ·simp +contextual (maxSteps:=4000000) only[↓bdD,bdP,Nat.reduceLT,Nat.reduceBEq,Ai,Nat.reduceAdd,st0,↓reduceIte,Try.f10,ty3,Bq,Aq,AB,AP,A6,h1,h2,h2i,h3,h3i,h4,h5,hw]
  ·simp +contextual (maxSteps:=4000000) only[↓bdD,bdP,Nat.reduceLT,Nat.reduceBEq,Ai,Nat.reduceAdd,st0,↓reduceIte,Try.f10,ty3,Bq,Aq,AB,AP,A6,h1,h2,h2i,h3,h3i,h4,h5,hw]
theorem Ajm:Acp:=Ajk Ajl
noncomputable def Kd:(Int)×(List Lnk)×(List Snd)×(Dem)×(Int)×(Int)→List PV:=fun (hn,ls,l,d,link,tick) => [.agg [I hn,Ax ls,Aw l,I d.1,I d.2.1,I d.2.2.1,I d.2.2.2.1,I d.2.2.2.2],I link,I tick]
noncomputable def Yl:(Int)×(List Lnk)×(List Snd)×(Dem)×(Int)×(Int)→PV:=fun (hn,ls,l,d,link,tick)=>I (Bd l link tick l.length)
def Ym:(Int)×(List Lnk)×(List Snd)×(Dem)×(Int)×(Int)→Prop:=fun (hn,ls,l,d,link,tick)=>smB l
noncomputable def e_taken:Nat×Ent:=(49,.v (Ag Kd Yl Ym))
theorem Aa5:∀i j,Kd i=Kd j→i=j:=by
 rintro ⟨hn₁,ls₁,l₁,d₁,link₁,tick₁⟩ ⟨hn₂,ls₂,l₂,d₂,link₂,tick₂⟩ h
 simp only[Kd,List.cons.injEq,and_true,PV.lits.injEq,PV.int.injEq,PV.agg.injEq,true_and,AK,AD]at h
 simp [Prod.ext_iff,h] <;> omega
theorem Aa6 (hn:Int) (ls:List Lnk) (l:List Snd) (d:Dem) (link:Int) (tick:Int):Ag Kd Yl Ym [.agg [I hn,Ax ls,Aw l,I d.1,I d.2.1,I d.2.2.1,I d.2.2.2.1,I d.2.2.2.2],I link,I tick]=@ite (Option (PV)) (smB l) (Classical.propDecidable _) (some (I (Bd l link tick l.length))) none:=BF Aa5 (hn,ls,l,d,link,tick)
def Yn:Prop:=∀(hn:Int) (ls:List Lnk) (l:List Snd) (d:Dem) (link:Int) (tick:Int) (h:smB l) ,VC Try.prog 49 [.agg [I hn,Ax ls,Aw l,I d.1,I d.2.1,I d.2.2.1,I d.2.2.2.1,I d.2.2.2.2],I link,I tick] (I (Bd l link tick l.length))
def Yo:Prop:=AM Try.prog e_taken.1 e_taken.2
theorem Aa7 (c:Yn):Yo:=Ao fun⟨hn,ls,l,d,link,tick⟩ h=>c hn ls l d link tick h
theorem Aa8:Yn:=by
 intro hn ls l d link tick hb
 refine AW AO (l := []) (An) [] []  Try.func49 rfl (by decide +kernel) (N:=43) rfl (by simp) rfl (by kernel_rfl) fun hs=>?_
 simp only[AH,PV.small,List.length_map,and_true,true_and]at hs
 have hlen:=hb.1
 generalize hr:Bd l link tick l.length=r
 simp +contextual (maxSteps:=4000000) only[↓bdD,bdP,Nat.reduceLT,Nat.reduceAdd,st0,↓reduceIte,Try.f49]
 refine Ar [7,8,9,10,11,12,13,14,15,16,17,18,19,20,21,22,23,24,25,26,27,28,29,30,31,32,33,34,35,36,37,38,39,40,41] l.length (fun k ρ st'=>ρ 8=I k∧ρ 7=I (Bd l link tick k)) (.refl _) ?_ ?_
 ·simp +contextual (maxSteps:=4000000) only[↓bdD,bdP,Nat.reduceBEq,Bd]
 ·rintro k ρ ⟨ob,M⟩ hk ⟨h8,h7⟩
  by_cases hlt:k<l.length
  ·have hw1:IntKind.i64.wrap ((k:Int)+1)=((k+1:Nat):Int):=by rw[Af (by omega) (by omega)];omega
   have hs:=MN hb link tick k hk
   have hbk:=hb.2 k hlt
   have hstep:Bd l link tick (k+1)=Bd l link tick k+if (l.getD k dS).1=link∧(l.getD k dS).2.1=tick then (l.getD k dS).2.2 else 0:=rfl
   generalize hx:l.getD k dS=x at *
   by_cases e1:x.1=link
   ·by_cases e2:x.2.1=tick
    ·rw [if_pos ⟨e1,e2⟩]at hstep
     have hw2:IntKind.i64.wrap (Bd l link tick k+x.2.2)=Bd l link tick (k+1):=by rw[hstep,Af (by omega) (by omega)]
     simp +contextual (maxSteps:=4000000) only[↓bdD,bdP,Nat.reduceLT,Nat.reduceBEq,Nat.reduceAdd,↓reduceIte,Ay,ty3,AB,A6,Bv,h8,h7,hlt,hx,e1,e2,hw1,hw2]
    ·rw [if_neg (fun h=>e2 h.2),Int.add_zero]at hstep
     simp +contextual (maxSteps:=4000000) only[↓bdD,bdP,Nat.reduceLT,Nat.reduceBEq,Nat.reduceAdd,↓reduceIte,Ay,ty3,AB,A6,Bv,h8,h7,hlt,hx,e1,e2,hw1,hstep]
   ·rw [if_neg (fun h=>e1 h.1),Int.add_zero]at hstep
    simp +contextual (maxSteps:=4000000) only[↓bdD,bdP,Nat.reduceLT,Nat.reduceBEq,Nat.reduceAdd,↓reduceIte,Ay,ty3,AB,A6,Bv,h8,h7,hlt,hx,e1,hw1,hstep]
  ·have e:k=l.length:=by omega
   subst e
   rw [hr]at h7
   simp +contextual (maxSteps:=4000000) only[↓bdD,bdP,Nat.reduceLT,Nat.reduceBEq,Ai,Nat.reduceAdd,↓reduceIte,AB,A6,h8,h7]
theorem Aa9:Yo:=Aa7 Aa8
noncomputable def Ke:(Int)×(List Lnk)×(List Snd)×(Dem)×(Int)×(Int)→List PV:=fun (hn,ls,us,d,link,tick) => [.agg [I hn,Ax ls,Aw us,I d.1,I d.2.1,I d.2.2.1,I d.2.2.2.1,I d.2.2.2.2],I link,I tick]
noncomputable def Yp:(Int)×(List Lnk)×(List Snd)×(Dem)×(Int)×(Int)→PV:=fun (hn,ls,us,d,link,tick)=>I (lfM ls us link tick)
def Yq:(Int)×(List Lnk)×(List Snd)×(Dem)×(Int)×(Int)→Prop:=fun (hn,ls,us,d,link,tick)=>Br hn ls us=0∧0≤link∧link<(ls.length:Int)∧0≤tick
noncomputable def e_pleft:Nat×Ent:=(27,.v (Ag Ke Yp Yq))
theorem Aba:∀i j,Ke i=Ke j→i=j:=by
 rintro ⟨hn₁,ls₁,us₁,d₁,link₁,tick₁⟩ ⟨hn₂,ls₂,us₂,d₂,link₂,tick₂⟩ h
 simp only[Ke,List.cons.injEq,and_true,PV.lits.injEq,PV.int.injEq,PV.agg.injEq,true_and,AK,AD]at h
 simp [Prod.ext_iff,h] <;> omega
theorem Yr (hn:Int) (ls:List Lnk) (us:List Snd) (d:Dem) (link:Int) (tick:Int):Ag Ke Yp Yq [.agg [I hn,Ax ls,Aw us,I d.1,I d.2.1,I d.2.2.1,I d.2.2.2.1,I d.2.2.2.2],I link,I tick]=@ite (Option (PV)) (Br hn ls us=0∧0≤link∧link<(ls.length:Int)∧0≤tick) (Classical.propDecidable _) (some (I (lfM ls us link tick))) none:=BF Aba (hn,ls,us,d,link,tick)
def Ys:Prop:=∀(hn:Int) (ls:List Lnk) (us:List Snd) (d:Dem) (link:Int) (tick:Int) (h:Br hn ls us=0∧0≤link∧link<(ls.length:Int)∧0≤tick) ,VC Try.prog 27 [.agg [I hn,Ax ls,Aw us,I d.1,I d.2.1,I d.2.2.1,I d.2.2.2.1,I d.2.2.2.2],I link,I tick] (I (lfM ls us link tick))
def Yt:Prop:=AM Try.prog e_pleft.1 e_pleft.2
theorem Abb (c:Ys):Yt:=Ao fun⟨hn,ls,us,d,link,tick⟩ h=>c hn ls us d link tick h
theorem Abc:Ys:=by
 rintro hn ls us d link tick ⟨hf,h0,h1,h2⟩
 refine AW AO (l := [e_rcap,e_taken]) ((Ad mX (Ad Aa9 An))) [] []  Try.func27 rfl (by decide +kernel) (N:=19) rfl (by simp) rfl (by kernel_rfl) fun hs=>?_
 simp only[AH,PV.small,List.length_map,and_true,true_and]at hs
 obtain ⟨ok,_⟩:=B7 hf
 have q1:=Ff hf (k:=link) (t:=tick) ⟨h0,h1⟩
 have q2:=EN ok.net (link:=link) (tick:=tick) h0 h1
 have sp1:=WI (hn:=hn) (ls:=ls) (link:=link) (tick:=tick)
 rw [if_pos ⟨h0,h1,h2⟩]at sp1
 have sp2:=Aa6 (hn:=hn) (ls:=ls) (l:=us) (d:=d) (link:=link) (tick:=tick)
 rw [if_pos ok.smB]at sp2
 dsimp only[Ax,Aw]at sp1 sp2
 unfold lfM
 generalize CW ls link tick=x at *
 generalize Bd us link tick us.length=z at *
 have w:IntKind.i64.wrap (x-z)=x-z:=Af (by omega) (by omega)
 simp +contextual (maxSteps:=4000000) only[↓bdD,bdP,Nat.reduceLT,Nat.reduceBEq,Ai,Nat.reduceEqDiff,Nat.reduceAdd,Nat.reduceLeDiff,st0,↓reduceIte,e_rcap,e_taken,Ac,Ab,Try.f27,ty3,Aq,A6,sp1,sp2,w]
theorem Yu:Yt:=Abb Abc
abbrev CN (y:List (List Int)):PV:=.lits 1 (y.map ints)
theorem Bx {y:List (List Int)} {k:Nat} (h:k<y.length):nth (y.map ints) k=.lits 1 ((y.getD k []).map (PV.int .i64)):=El [] h
theorem BH {y:List (List Int)}:AU (y.map ints)=true:=H7 fun x=>by rw[Mn,Hs]
theorem Et {y z:List (List Int)}:(y.map ints=z.map ints)=(y=z):=H8 fun x y h=>by
 simp only[ints,PV.lits.injEq,true_and]at h
 rwa [DV]at h
theorem Pr {y:List (List Int)} (h:AH (y.map ints)) {k:Nat}:(y.getD k []).length≤9223372036854775807:=by
 induction y generalizing k with
 | nil=>simp
 | cons l y ih =>
  simp only[List.map_cons,AH,ints,PV.small]at h
  cases k with
  | zero=>simpa using h.1.1
  | succ k=>simpa using ih h.2 (k:=k)
end Sim
namespace Sim
open Go Go.Proofs
attribute [local congr] As At Am AI Av Au AA
def lnP (hn:Int) (l:List Int):Bool := !decide ((l.length:Int)=hn)
noncomputable def Nl:(Int)×(List Lnk)×(List Snd)×(Dem)×(List Int)→List PV:=fun (hn,ls,us,d,l) => [ints l,.vptr [I hn,Ax ls,Aw us,I d.1,I d.2.1,I d.2.2.1,I d.2.2.2.1,I d.2.2.2.2] 0]
noncomputable def pM:(Int)×(List Lnk)×(List Snd)×(Dem)×(List Int)→PV:=fun (hn,ls,us,d,l)=>B (lnP hn l)
def pN:(Int)×(List Lnk)×(List Snd)×(Dem)×(List Int)→Prop:=fun (hn,ls,us,d,l)=>True
noncomputable def e_bnd1:Nat×Ent:=(33,.v (Ag Nl pM pN))
theorem Af4:∀i j,Nl i=Nl j→i=j:=by
 rintro ⟨hn₁,ls₁,us₁,d₁,l₁⟩ ⟨hn₂,ls₂,us₂,d₂,l₂⟩ h
 simp only[Nl,List.cons.injEq,and_true,PV.lits.injEq,PV.int.injEq,PV.vptr.injEq,true_and,DV,AK,AD]at h
 simp [Prod.ext_iff,h] <;> omega
theorem pO (hn:Int) (ls:List Lnk) (us:List Snd) (d:Dem) (l:List Int):Ag Nl pM pN [ints l,.vptr [I hn,Ax ls,Aw us,I d.1,I d.2.1,I d.2.2.1,I d.2.2.2.1,I d.2.2.2.2] 0]=some (B (lnP hn l)):=Az Af4 (i:=(hn,ls,us,d,l)) trivial
def pP:Prop:=∀(hn:Int) (ls:List Lnk) (us:List Snd) (d:Dem) (l:List Int) ,VC Try.prog 33 [ints l,.vptr [I hn,Ax ls,Aw us,I d.1,I d.2.1,I d.2.2.1,I d.2.2.2.1,I d.2.2.2.2] 0] (B (lnP hn l))
def pQ:Prop:=AM Try.prog e_bnd1.1 e_bnd1.2
theorem Af5 (c:pP):pQ:=Ao fun⟨hn,ls,us,d,l⟩ h=>c hn ls us d l
theorem Af6:pP:=by
 intro hn ls us d l
 refine AW AO (l := []) (An) [] []  Try.func33 rfl (by decide +kernel) (N:=10) rfl (by simp) rfl (by kernel_rfl) fun hs=>?_
 simp only[AH,PV.small,List.length_map,and_true,true_and]at hs
 unfold lnP
 by_cases h:(l.length:Int)=hn
 ·simp +contextual (maxSteps:=4000000) only[↓bdD,bdP,Nat.reduceLT,Nat.reduceBEq,Ai,Nat.reduceAdd,st0,↓reduceIte,Try.f33,ty3,Aq,A6,AY,h]
 ·simp +contextual (maxSteps:=4000000) only[↓bdD,bdP,Nat.reduceLT,Nat.reduceBEq,Ai,Nat.reduceAdd,st0,↓reduceIte,Try.f33,ty3,Aq,A6,AY,h]
theorem Af7:pQ:=Af5 Af6
def Iv (hn:Int) (y:List (List Int)):Int:=if y.findIdx (lnP hn)<y.length then (y.findIdx (lnP hn):Int)else -1
theorem Abd {hn:Int} {y:List (List Int)} {k:Nat} (hk:k<y.length) (h:lnP hn (y.getD k [])=true) (g:∀j,j<k→lnP hn (y.getD j [])=false):Iv hn y=k:=by
 have e:y.findIdx (lnP hn)=k:=by
  rw [List.findIdx_eq hk]
  refine ⟨?_,fun j hj=>?_⟩
  ·have : y.getD k []=y[k]:=by simp[hk]
   rw [←this];exact h
  ·have hjl:j<y.length:=by omega
   have : y.getD j []=y[j]:=by simp[hjl]
   rw [←this];exact g j hj
 unfold Iv
 rw [e,if_pos hk]
theorem pR {hn:Int} {y:List (List Int)} (g:∀j,j<y.length→lnP hn (y.getD j [])=false):Iv hn y = -1:=by
 have e:y.findIdx (lnP hn)=y.length:=by
  rw [List.findIdx_eq_length]
  intro x hx
  obtain ⟨j,hj,rfl⟩:=List.getElem_of_mem hx
  have : y.getD j []=y[j]:=by simp[hj]
  rw [←this];exact g j hj
 unfold Iv
 rw [e,if_neg (by omega)]
noncomputable def Nm:(Int)×(List Lnk)×(List Snd)×(Dem)×(List (List Int))→List PV:=fun (hn,ls,us,d,y) => [CN y,.func (.func 33) [] [.vptr [I hn,Ax ls,Aw us,I d.1,I d.2.1,I d.2.2.1,I d.2.2.2.1,I d.2.2.2.2] 0]]
noncomputable def pS:(Int)×(List Lnk)×(List Snd)×(Dem)×(List (List Int))→PV:=fun (hn,ls,us,d,y)=>I (Iv hn y)
def pT:(Int)×(List Lnk)×(List Snd)×(Dem)×(List (List Int))→Prop:=fun (hn,ls,us,d,y)=>True
noncomputable def e_idxR:Nat×Ent:=(52,.v (Ag Nm pS pT))
theorem Af8:∀i j,Nm i=Nm j→i=j:=by
 rintro ⟨hn₁,ls₁,us₁,d₁,y₁⟩ ⟨hn₂,ls₂,us₂,d₂,y₂⟩ h
 simp only[Nm,List.cons.injEq,and_true,PV.lits.injEq,PV.int.injEq,PV.func.injEq,PV.vptr.injEq,true_and,AK,AD,Et]at h
 simp [Prod.ext_iff,h] <;> omega
theorem pU (hn:Int) (ls:List Lnk) (us:List Snd) (d:Dem) (y:List (List Int)):Ag Nm pS pT [CN y,.func (.func 33) [] [.vptr [I hn,Ax ls,Aw us,I d.1,I d.2.1,I d.2.2.1,I d.2.2.2.1,I d.2.2.2.2] 0]]=some (I (Iv hn y)):=Az Af8 (i:=(hn,ls,us,d,y)) trivial
def pV:Prop:=∀(hn:Int) (ls:List Lnk) (us:List Snd) (d:Dem) (y:List (List Int)) ,VC Try.prog 52 [CN y,.func (.func 33) [] [.vptr [I hn,Ax ls,Aw us,I d.1,I d.2.1,I d.2.2.1,I d.2.2.2.1,I d.2.2.2.2] 0]] (I (Iv hn y))
def pW:Prop:=AM Try.prog e_idxR.1 e_idxR.2
theorem Af9 (c:pV):pW:=Ao fun⟨hn,ls,us,d,y⟩ h=>c hn ls us d y
theorem Aga:pV:=by
 intro hn ls us d y
 refine AW AO (l := [e_bnd1]) ((Ad Af7 An)) [] []  Try.func52 rfl (by decide +kernel) (N:=19) rfl (by simp) rfl (by kernel_rfl) fun hs=>?_
 simp only[AH,PV.small,List.length_map,and_true]at hs
 have hsl:=hs.1
 generalize hr:Iv hn y=r
 simp +contextual (maxSteps:=4000000) only[↓bdD,bdP,Nat.reduceLT,Nat.reduceBEq,Nat.reduceAdd,st0,↓reduceIte,e_bnd1,Try.f52,A8]
 refine Ar [4,5,8,9,10,11,12,13,14,15,16,17,18] y.length (fun k ρ st'=>ρ 8=I k∧∀j,j<k→lnP hn (y.getD j [])=false) (.refl _) ?_ ?_
 ·simp +contextual (maxSteps:=4000000) only[↓bdD,bdP]
  exact fun j hj=>absurd hj (by omega)
 rintro k ρ ⟨ob,M⟩ hk ⟨h8,hI⟩
 by_cases hlt:k<y.length
 ·have hwk:IntKind.i64.wrap ((k:Int)+1)=((k+1:Nat):Int):=by rw[Af (by omega) (by omega)];omega
  cases hp:lnP hn (y.getD k [])
  ·simp +contextual (maxSteps:=4000000) only[↓bdD,bdP,Nat.reduceLT,Nat.reduceBEq,Nat.reduceAdd,↓reduceIte,pO,Ac,Ab,Bx,A8,AY,h8,hlt,hwk,hp]
   intro j hj
   by_cases e:j=k
   ·rw [e];exact hp
   ·exact hI j (by omega)
  ·have := Abd hlt hp hI
   rw [hr]at this
   simp +contextual (maxSteps:=4000000) only[↓bdD,bdP,Nat.reduceLT,Nat.reduceBEq,Ai,Nat.reduceAdd,↓reduceIte,pO,Ac,Ab,Bx,A8,AY,h8,hlt,hp,this]
 ·have e:k=y.length:=by omega
  subst e
  have := pR hI
  rw [hr]at this
  simp +contextual (maxSteps:=4000000) only[↓bdD,bdP,Nat.reduceLT,Nat.reduceBEq,Ai,↓reduceIte,h8,this]
theorem Agb:pW:=Af9 Aga
noncomputable def Nn:(Int)×(List Lnk)×(List Snd)×(Dem)×(List (List Int))→List PV:=fun (hn,ls,us,d,y) => [CN y,.func (.func 33) [] [.vptr [I hn,Ax ls,Aw us,I d.1,I d.2.1,I d.2.2.1,I d.2.2.2.1,I d.2.2.2.2] 0]]
noncomputable def pX:(Int)×(List Lnk)×(List Snd)×(Dem)×(List (List Int))→PV:=fun (hn,ls,us,d,y)=>B (decide (0≤Iv hn y))
def pY:(Int)×(List Lnk)×(List Snd)×(Dem)×(List (List Int))→Prop:=fun (hn,ls,us,d,y)=>True
noncomputable def e_cntR:Nat×Ent:=(32,.v (Ag Nn pX pY))
theorem Agc:∀i j,Nn i=Nn j→i=j:=by
 rintro ⟨hn₁,ls₁,us₁,d₁,y₁⟩ ⟨hn₂,ls₂,us₂,d₂,y₂⟩ h
 simp only[Nn,List.cons.injEq,and_true,PV.lits.injEq,PV.int.injEq,PV.func.injEq,PV.vptr.injEq,true_and,AK,AD,Et]at h
 simp [Prod.ext_iff,h] <;> omega
theorem pZ (hn:Int) (ls:List Lnk) (us:List Snd) (d:Dem) (y:List (List Int)):Ag Nn pX pY [CN y,.func (.func 33) [] [.vptr [I hn,Ax ls,Aw us,I d.1,I d.2.1,I d.2.2.1,I d.2.2.2.1,I d.2.2.2.2] 0]]=some (B (decide (0≤Iv hn y))):=Az Agc (i:=(hn,ls,us,d,y)) trivial
def qA:Prop:=∀(hn:Int) (ls:List Lnk) (us:List Snd) (d:Dem) (y:List (List Int)) ,VC Try.prog 32 [CN y,.func (.func 33) [] [.vptr [I hn,Ax ls,Aw us,I d.1,I d.2.1,I d.2.2.1,I d.2.2.2.1,I d.2.2.2.2] 0]] (B (decide (0≤Iv hn y)))
def qC:Prop:=AM Try.prog e_cntR.1 e_cntR.2
theorem Agd (c:qA):qC:=Ao fun⟨hn,ls,us,d,y⟩ h=>c hn ls us d y
theorem Age:qA:=by
 intro hn ls us d y
 refine AW AO (l := [e_idxR]) ((Ad Agb An)) [] []  Try.func32 rfl (by decide +kernel) (N:=9) rfl (by simp) rfl (by kernel_rfl) fun hs=>?_
 simp only[AH,PV.small,List.length_map,and_true]at hs
 by_cases h:0≤Iv hn y
 ·simp +contextual (maxSteps:=4000000) only[↓bdD,bdP,Nat.reduceLT,Nat.reduceBEq,Ai,Nat.reduceAdd,st0,↓reduceIte,e_idxR,pU,Ac,Ab,BH,Try.f32,A8,yB,h]
 ·simp +contextual (maxSteps:=4000000) only[↓bdD,bdP,Nat.reduceLT,Nat.reduceBEq,Ai,Nat.reduceAdd,st0,↓reduceIte,e_idxR,pU,Ac,Ab,BH,Try.f32,A8,yB,h]
theorem Agf:qC:=Agd Age
theorem fnd_iff {hn:Int} {y:List (List Int)}:0≤Iv hn y↔¬ ∀l∈y,(l.length:Int)=hn:=by
 have key:(∃x∈y,lnP hn x=true)↔¬ ∀l∈y,(l.length:Int)=hn:=by
  constructor
  ·rintro ⟨x,hx,h⟩ g
   have := g x hx
   simp [lnP,this]at h
  ·intro h
   refine Classical.byContradiction fun g=>h fun l hl=>?_
   refine Classical.byContradiction fun c=>g ⟨l,hl,?_⟩
   simp [lnP,c]
 rw [←key,←List.findIdx_lt_length]
 unfold Iv
 constructor
 ·intro h
  split at h
  ·assumption
  ·omega
 ·intro h
  rw [if_pos h];omega
def mnT (l:List Int):Nat→Int
 | 0=>l.getD 0 0
 | k+1=>min (mnT l k) (l.getD k 0)
def mxT (l:List Int):Nat→Int
 | 0=>l.getD 0 0
 | k+1=>max (mxT l k) (l.getD k 0)
noncomputable def T8:List Int→List PV:=fun l => [ints l]
noncomputable def Acq:List Int→PV:=fun l=>I (mnT l l.length)
def Acr:List Int→Prop:=fun l=>l ≠ []
noncomputable def e_mnR:Nat×Ent:=(34,.v (Ag T8 Acq Acr))
theorem Ajn:∀i j,T8 i=T8 j→i=j:=by
 rintro l₁ l₂ h
 simp only[T8,List.cons.injEq,and_true,PV.lits.injEq,true_and,DV]at h
 first | exact h | omega | (simp[Prod.ext_iff,h];done)
theorem qD (l:List Int):Ag T8 Acq Acr [ints l]=@ite (Option (PV)) (l ≠ []) (Classical.propDecidable _) (some (I (mnT l l.length))) none:=BF Ajn l
def Acs:Prop:=∀(l:List Int) (h:l ≠ []) ,VC Try.prog 34 [ints l] (I (mnT l l.length))
def Acu:Prop:=AM Try.prog e_mnR.1 e_mnR.2
theorem Ajo (c:Acs):Acu:=Ao fun l h=>c l h
theorem Ajp:Acs:=by
 intro l hne
 refine AW AO (l := []) (An) [] []  Try.func34 rfl (by decide +kernel) (N:=25) rfl (by simp) rfl (by kernel_rfl) fun hs=>?_
 simp only[AH,PV.small,List.length_map,and_true]at hs
 have hp:0<l.length:=List.length_pos_iff.2 hne
 have hpi:¬(l.length:Int)<1:=by omega
 have hsl:=hs.1
 have h01:mnT l 1=l.getD 0 0:=by show min (l.getD 0 0) (l.getD 0 0)=_;omega
 generalize hr:mnT l l.length=r
 simp +contextual (maxSteps:=4000000) only[↓bdD,bdP,Nat.reduceLT,Nat.reduceBEq,Nat.reduceAdd,Int.reduceToNat,st0,↓reduceIte,Try.f34,ty3,AY,hp,hpi]
 refine Ar [3,4,12,13,14,15,16,17,18,19,20,21,22,23] (l.length-1) (fun k ρ st'=>ρ 4=I ((k+1:Nat):Int)∧ρ 3=I (mnT l (k+1))) (.refl _) ?_ ?_
 ·simp +contextual (maxSteps:=4000000) only[↓bdD,bdP,Nat.reduceBEq,h01]
 rintro k ρ ⟨ob,M⟩ hk ⟨h4,h3⟩
 by_cases hlt:k<l.length-1
 ·have hlt2:k+1<l.length:=by omega
  have hwk:IntKind.i64.wrap (((k+1:Nat):Int)+1)=((k+1+1:Nat):Int):=by rw[Af (by omega) (by omega)];omega
  have hst:mnT l (k+1+1)=min (mnT l (k+1)) (l.getD (k+1) 0):=rfl
  simp +contextual (maxSteps:=4000000) only[↓bdD,bdP,Nat.reduceLT,Nat.reduceBEq,Nat.reduceAdd,↓reduceIte,ty3,AY,h4,h3,hlt2,hwk,hst]
  exact ⟨hlt,by split <;> omega⟩
 ·have e:k+1=l.length:=by omega
  rw [e]at h4 h3
  rw [hr]at h3
  simp +contextual (maxSteps:=4000000) only[↓bdD,bdP,Nat.reduceLT,Nat.reduceBEq,Ai,Nat.reduceAdd,↓reduceIte,AY,h4,h3]
theorem Ajq:Acu:=Ajo Ajp
noncomputable def T9:List Int→List PV:=fun l => [ints l]
noncomputable def Acv:List Int→PV:=fun l=>I (mxT l l.length)
def Acw:List Int→Prop:=fun l=>l ≠ []
noncomputable def e_mxR:Nat×Ent:=(35,.v (Ag T9 Acv Acw))
theorem Ajr:∀i j,T9 i=T9 j→i=j:=by
 rintro l₁ l₂ h
 simp only[T9,List.cons.injEq,and_true,PV.lits.injEq,true_and,DV]at h
 first | exact h | omega | (simp[Prod.ext_iff,h];done)
theorem Acx (l:List Int):Ag T9 Acv Acw [ints l]=@ite (Option (PV)) (l ≠ []) (Classical.propDecidable _) (some (I (mxT l l.length))) none:=BF Ajr l
def Acy:Prop:=∀(l:List Int) (h:l ≠ []) ,VC Try.prog 35 [ints l] (I (mxT l l.length))
def Acz:Prop:=AM Try.prog e_mxR.1 e_mxR.2
theorem Ajs (c:Acy):Acz:=Ao fun l h=>c l h
theorem Ajt:Acy:=by
 intro l hne
 refine AW AO (l := []) (An) [] []  Try.func35 rfl (by decide +kernel) (N:=25) rfl (by simp) rfl (by kernel_rfl) fun hs=>?_
 simp only[AH,PV.small,List.length_map,and_true]at hs
 have hp:0<l.length:=List.length_pos_iff.2 hne
 have hpi:¬(l.length:Int)<1:=by omega
 have hsl:=hs.1
 have h01:mxT l 1=l.getD 0 0:=by show max (l.getD 0 0) (l.getD 0 0)=_;omega
 generalize hr:mxT l l.length=r
 simp +contextual (maxSteps:=4000000) only[↓bdD,bdP,Nat.reduceLT,Nat.reduceBEq,Nat.reduceAdd,Int.reduceToNat,st0,↓reduceIte,Try.f35,ty3,AY,hp,hpi]
 refine Ar [3,4,12,13,14,15,16,17,18,19,20,21,22,23] (l.length-1) (fun k ρ st'=>ρ 4=I ((k+1:Nat):Int)∧ρ 3=I (mxT l (k+1))) (.refl _) ?_ ?_
 ·simp +contextual (maxSteps:=4000000) only[↓bdD,bdP,Nat.reduceBEq,h01]
 rintro k ρ ⟨ob,M⟩ hk ⟨h4,h3⟩
 by_cases hlt:k<l.length-1
 ·have hlt2:k+1<l.length:=by omega
  have hwk:IntKind.i64.wrap (((k+1:Nat):Int)+1)=((k+1+1:Nat):Int):=by rw[Af (by omega) (by omega)];omega
  have hst:mxT l (k+1+1)=max (mxT l (k+1)) (l.getD (k+1) 0):=rfl
  simp +contextual (maxSteps:=4000000) only[↓bdD,bdP,Nat.reduceLT,Nat.reduceBEq,Nat.reduceAdd,↓reduceIte,ty3,AY,h4,h3,hlt2,hwk,hst]
  exact ⟨hlt,by split <;> omega⟩
 ·have e:k+1=l.length:=by omega
  rw [e]at h4 h3
  rw [hr]at h3
  simp +contextual (maxSteps:=4000000) only[↓bdD,bdP,Nat.reduceLT,Nat.reduceBEq,Ai,Nat.reduceAdd,↓reduceIte,AY,h4,h3]
theorem Aju:Acz:=Ajs Ajt
theorem qE {l:List Int} {b:Int}:∀ {k},k≤l.length→(0<k)→(b≤mnT l k↔∀j,j<k→b≤l.getD j 0)
 | 0,_,h=>absurd h (by omega)
 | 1,hk,_=>by
  show b≤min (l.getD 0 0) (l.getD 0 0)↔_
  constructor
  ·intro h j hj
   rw [show j=0 by omega];omega
  ·intro h;have:=h 0 (by omega);omega
 | k+2,hk,_=>by
  have ih:=qE (l:=l) (b:=b) (k:=k+1) (by omega) (by omega)
  show b≤min (mnT l (k+1)) (l.getD (k+1) 0)↔_
  constructor
  ·intro h j hj
   by_cases e:j=k+1
   ·rw [e];omega
   ·exact ih.1 (by omega) j (by omega)
  ·intro h
   have h1:=ih.2 fun j hj=>h j (by omega)
   have h2:=h (k+1) (by omega)
   omega
theorem qF {l:List Int} {b:Int}:∀ {k},k≤l.length→(0<k)→(mxT l k≤b↔∀j,j<k→l.getD j 0≤b)
 | 0,_,h=>absurd h (by omega)
 | 1,hk,_=>by
  show max (l.getD 0 0) (l.getD 0 0)≤b↔_
  constructor
  ·intro h j hj
   rw [show j=0 by omega];omega
  ·intro h;have:=h 0 (by omega);omega
 | k+2,hk,_=>by
  have ih:=qF (l:=l) (b:=b) (k:=k+1) (by omega) (by omega)
  show max (mxT l (k+1)) (l.getD (k+1) 0)≤b↔_
  constructor
  ·intro h j hj
   by_cases e:j=k+1
   ·rw [e];omega
   ·exact ih.1 (by omega) j (by omega)
  ·intro h
   have h1:=ih.2 fun j hj=>h j (by omega)
   have h2:=h (k+1) (by omega)
   omega
end Sim
namespace Sim
open Go Go.Proofs
attribute [local congr] As At Am AI Av Au AA
abbrev pt (y:List (List Int)) (t k:Nat):Int:=(y.getD t []).getD k 0
def shA (hn:Int) (d:Dem) (y:List (List Int)):Prop:=(y.length:Int)=d.2.2.2.2-d.2.2.2.1+1∧∀l∈y,(l.length:Int)=hn
instance {hn:Int} {d:Dem} {y:List (List Int)}:Decidable (shA hn d y):=inferInstanceAs (Decidable (_∧_))
def shB (hn:Int) (y:List (List Int)):Prop:=∀t,t<y.length→∀k,k<hn.toNat→0≤pt y t k∧pt y t k≤536870912
instance {hn:Int} {y:List (List Int)}:Decidable (shB hn y):=inferInstanceAs (Decidable (∀t,t<y.length→_))
def shC (hn:Int) (y:List (List Int)):Prop:=∀t,t<y.length-1→∀k,k<hn.toNat→pt y (t+1) k≤pt y t k
instance {hn:Int} {y:List (List Int)}:Decidable (shC hn y):=inferInstanceAs (Decidable (∀t,t<y.length-1→_))
def shE (hn:Int) (d:Dem) (y:List (List Int)):Int:=if ¬shA hn d y then 1 else if ¬shB hn y then 3 else if ¬shC hn y then 22 else 0
def ED (hn:Int) (ls:List Lnk) (us:List Snd) (d:Dem) (y:List (List Int)):Int:=if CF hn ls us d≠0 then CF hn ls us d else shE hn d y
def Ua (ls:List Lnk) (us:List Snd) (d:Dem) (y:List (List Int)) (t k:Nat):Int :=
 min d.2.2.1 (lfM ls us (k:Nat) (d.2.2.2.1+(t:Int)))*max 0 (pt y (t+1) (ls.getD k dL).2.1.toNat-pt y t (ls.getD k dL).1.toNat-EA ls (k:Nat) (d.2.2.2.1+(t:Int)))
def F7 (ls:List Lnk) (us:List Snd) (d:Dem) (y:List (List Int)) (n:Nat):Int :=
 d.2.2.1 * (pt y (Al d) d.2.1.toNat-pt y 0 d.1.toNat)-Aj (fun i=>Ua ls us d y (i / ls.length) (i % ls.length)) n
def F8 (hn:Int) (ls:List Lnk) (us:List Snd) (d:Dem) (y:List (List Int)):Int:=if ED hn ls us d y≠0 then 0 else F7 ls us d y (Al d*ls.length)
theorem pck_zero {hn:Int} {ls:List Lnk} {us:List Snd} {d:Dem}:CF hn ls us d=0↔DB hn ls us d=0∧d.2.2.1≤4194304:=by
 unfold CF
 constructor
 ·intro h
  split at h
  ·contradiction
  ·rename_i c
   split at h
   ·cases h
   ·exact ⟨Classical.not_not.1 c,by omega⟩
 ·rintro ⟨h1,h2⟩
  rw [if_neg (fun g=>g h1),if_neg (by omega)]
theorem Rj {ls:List Lnk} {us:List Snd} {r:Int} {k t:Nat}:(EO ls us r k t)[1]?=some (I (r+(t:Int))):=rfl
theorem Rk {ls:List Lnk} {us:List Snd} {r:Int} {k t:Nat}:(EO ls us r k t)[2]?=some (I (ls.getD k dL).1):=by simp[EO,lkC]
theorem Rl {ls:List Lnk} {us:List Snd} {r:Int} {k t:Nat}:(EO ls us r k t)[3]?=some (I (ls.getD k dL).2.1):=by simp[EO,lkC]
theorem LO {ls:List Lnk} {us:List Snd} {r:Int} {k t:Nat}:(EO ls us r k t)[52]?=some (I (lfM ls us (k:Nat) (r+(t:Int)))):=by
 unfold EO
 rw [List.getElem?_cons_succ,List.getElem?_cons_succ,List.getElem?_append_right (by rw[Bu];omega),Bu];rfl
theorem Yv {ls:List Lnk} {us:List Snd} {r:Int} {k t:Nat}:(EO ls us r k t)[53]?=some (I (EA ls (k:Nat) (r+(t:Int)))):=by
 unfold EO
 rw [List.getElem?_cons_succ,List.getElem?_cons_succ,List.getElem?_append_right (by rw[Bu];omega),Bu];rfl
theorem Cd {ls:List Lnk} {us:List Snd} {r:Int} {k t:Nat}:(EO ls us r k t).length=54:=by simp[EO,Bu]
theorem LP {ls:List Lnk} {us:List Snd} {r:Int} {D i:Nat} {y:List PV} (h:(Jf ls us r D)[i]?=some y):i<D*ls.length∧y = [Aa4 ls us r (i % ls.length) (i / ls.length)]:=by
 unfold Jf at h
 rw [List.getElem?_map,Option.map_eq_some_iff]at h
 obtain ⟨x,h1,h2⟩:=h
 obtain ⟨hi,rfl⟩:=List.getElem?_eq_some_iff.1 h1
 rw [List.length_range]at hi
 rw [List.getElem_range]at h2
 exact ⟨hi,h2.symm⟩
theorem Kg {ls:List Lnk} {us:List Snd} {r:Int} {D:Nat}:(Jf ls us r D).length=D*ls.length:=by unfold Jf;rw[List.length_map,List.length_range]
theorem Kh {ls:List Lnk} {us:List Snd} {r:Int} {D:Nat}:∀y∈Jf ls us r D,y.length=1:=fun y hy=>by
 obtain ⟨i,_,rfl⟩:=List.mem_map.1 hy
 rfl
theorem Rm {hn:Int} {ls:List Lnk} {us:List Snd} {d:Dem} {y:List (List Int)} (hf:Br hn ls us=0) (hB:shB hn y) (hb:0≤d.2.2.1∧d.2.2.1≤4194304) (hr:0≤d.2.2.2.1) {t k:Nat} (ht:t+1<y.length) (hk:k<ls.length) :
  0 ≤ lfM ls us (k:Nat) (d.2.2.2.1+(t:Int))∧lfM ls us (k:Nat) (d.2.2.2.1+(t:Int))≤1073741824∧0≤EA ls (k:Nat) (d.2.2.2.1+(t:Int))∧EA ls (k:Nat) (d.2.2.2.1+(t:Int))≤1000000 ∧
  0 ≤ Ua ls us d y t k∧Ua ls us d y t k≤2251799813685248:=by
 obtain ⟨ok,_⟩:=B7 hf
 have hend:=ok.net.ends k hk
 have q1:=Ff hf (k:=(k:Int)) (t:=d.2.2.2.1+(t:Int)) ⟨by omega,by omega⟩
 have q2:=EN ok.net (link:=(k:Int)) (tick:=d.2.2.2.1+(t:Int)) (by omega) (by omega)
 have q3:=JY ok.net (link:=(k:Int)) (tick:=d.2.2.2.1+(t:Int)) (by omega) (by omega)
 have a:=hB (t+1) ht (ls.getD k dL).2.1.toNat (by omega)
 have b:=hB t (by omega) (ls.getD k dL).1.toNat (by omega)
 unfold Ua
 have hl:lfM ls us (k:Nat) (d.2.2.2.1+(t:Int))=CW ls (k:Int) (d.2.2.2.1+(t:Int))-Bd us (k:Int) (d.2.2.2.1+(t:Int)) us.length:=rfl
 generalize lfM ls us (k:Nat) (d.2.2.2.1+(t:Int))=lf at *
 generalize EA ls (k:Nat) (d.2.2.2.1+(t:Int))=pr at *
 generalize pt y (t+1) (ls.getD k dL).2.1.toNat=p at *
 generalize pt y t (ls.getD k dL).1.toNat=q at *
 refine ⟨by omega,by omega,by omega,by omega,Int.mul_nonneg (by omega) (by omega),?_⟩
 exact Int.le_trans (Int.mul_le_mul (show min d.2.2.1 lf≤4194304 by omega) (show max 0 (p-q-pr)≤536870912 by omega) (by omega) (by decide)) (by decide)
theorem HO {f:Nat→Int} {B:Int}:∀ {n:Nat},(∀i,i<n→0≤f i∧f i≤B)→0≤Aj f n∧Aj f n≤B*(n:Int)
 | 0,_=>⟨Int.le_refl _,by simp[Aj]⟩
 | n+1,h=>by
  have ih:=HO (f:=f) (B:=B) (n:=n) fun i hi=>h i (by omega)
  have h1:=h n (by omega)
  have e:B*((n+1:Nat):Int)=B*(n:Int)+B:=by rw[show ((n+1:Nat):Int)=(n:Int)+1 by omega,Int.mul_add,Int.mul_one]
  rw [Aj,e]
  omega
theorem Ps {ls:List Lnk} {us:List Snd} {d:Dem} {y:List (List Int)} {n:Nat}:F7 ls us d y (n+1)=F7 ls us d y n-Ua ls us d y (n / ls.length) (n % ls.length):=by
 unfold F7
 rw [Aj];omega
theorem Ga {hn:Int} {ls:List Lnk} {us:List Snd} {d:Dem} {y:List (List Int)} (hf:Br hn ls us=0) (hB:shB hn y) (hb:0≤d.2.2.1∧d.2.2.1≤4194304) (hr:0≤d.2.2.2.1) (hD:Al d≤32) (hyl:y.length=Al d+1) (ha:0≤d.1∧d.1<hn) (hc:0≤d.2.1∧d.2.1<hn) {n:Nat} (hn':n≤Al d*ls.length) :
  -4611686018427387904 ≤ F7 ls us d y n∧F7 ls us d y n≤2251799813685248:=by
 obtain ⟨ok,_⟩:=B7 hf
 have hl:=ok.net.len
 have h1:=HO (f:=fun i=>Ua ls us d y (i / ls.length) (i % ls.length)) (B:=2251799813685248) (n:=n) fun i hi=>by
  obtain ⟨h1,h2⟩:=TN.idx_lt (i:=i) (Nat.lt_of_lt_of_le hi hn')
  have := Rm hf hB hb hr (t:=i / ls.length) (k:=i % ls.length) (by omega) h2
  exact ⟨this.2.2.2.2.1,this.2.2.2.2.2⟩
 have h2:=hB (Al d) (by omega) d.2.1.toNat (by omega)
 have h3:=hB 0 (by omega) d.1.toNat (by omega)
 have hn2:n≤1920:=Nat.le_trans hn' (Nat.le_trans (Nat.mul_le_mul hD hl) (by decide))
 unfold F7
 generalize pt y (Al d) d.2.1.toNat=p at *
 generalize pt y 0 d.1.toNat=q at *
 have m1:d.2.2.1*(p-q)≤2251799813685248:=by
  have := Int.mul_le_mul_of_nonneg_left (show p-q≤536870912 by omega) hb.1
  omega
 have m2 : -2251799813685248≤d.2.2.1*(p-q):=by
  have := Int.mul_le_mul_of_nonneg_left (show -536870912≤p-q by omega) hb.1
  omega
 generalize d.2.2.1*(p-q)=m at *
 omega
end Sim
