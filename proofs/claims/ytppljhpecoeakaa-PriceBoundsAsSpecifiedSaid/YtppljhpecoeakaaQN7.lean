/- What functions of this seat compute, by values: contracts (lemmas of the statement's proof, under the conditions that each names). -/
import Derived.Test.YtppljhpecoeakaaQN4
set_option maxRecDepth 10000
set_option maxHeartbeats 2000000
set_option linter.unusedVariables false
set_option linter.unusedSimpArgs false
namespace Sim
open Go Go.Proofs
attribute [local congr] Ap Aq Am AD As Ar Aw
abbrev Dem:=Int×Int×Int×Int×Int
abbrev Cq (d:Dem):PV:=.agg [I d.1,I d.2.1,I d.2.2.1,I d.2.2.2.1,I d.2.2.2.2]
def DT (d:Dem):Prop:=1≤d.2.2.1∧d.2.2.1≤1099511627776∧0≤d.2.2.2.1∧d.2.2.2.1≤d.2.2.2.2∧d.2.2.2.2≤1000000
instance {d:Dem}:Decidable (DT d):=inferInstanceAs (Decidable (_∧_))
def Dc (hn:Int) (d:Dem):Bool:=hOK hn d.1&&hOK hn d.2.1&&decide (DT d)
noncomputable def Hx:(Int)×(List Lnk)×(Int)→List PV:=fun (hn,ls,h) => [I h,.vptr [I hn,Ax ls] 0]
noncomputable def Te:(Int)×(List Lnk)×(Int)→PV:=fun (hn,ls,h)=>B (hOK hn h)
def Tf:(Int)×(List Lnk)×(Int)→Prop:=fun (hn,ls,h)=>True
noncomputable def e_dhouse:Nat×Ent:=(75,.v (Ah Hx Te Tf))
theorem lV:∀i j,Hx i=Hx j→i=j:=by
 rintro ⟨hn₁,ls₁,h₁⟩ ⟨hn₂,ls₂,h₂⟩ h
 simp only[Hx,List.cons.injEq,and_true,PV.lits.injEq,PV.int.injEq,PV.vptr.injEq,true_and,AF]at h
 simp [h] <;> omega
theorem El (hn:Int) (ls:List Lnk) (h:Int):Ah Hx Te Tf [I h,.vptr [I hn,Ax ls] 0]=some (B (hOK hn h)):=Ay lV (i:=(hn,ls,h)) trivial
def Tg:Prop:=∀(hn:Int) (ls:List Lnk) (h:Int) ,VC Try.prog 75 [I h,.vptr [I hn,Ax ls] 0] (B (hOK hn h))
def Th:Prop:=AL Try.prog e_dhouse.1 e_dhouse.2
theorem lW (c:Tg):Th:=At fun⟨hn,ls,h⟩ h=>c hn ls h
theorem lX:Tg:=by
 intro hn ls h
 refine A5 AO (l := []) (Ao) [] []  Try.func75 rfl (by decide +kernel) (N:=12) rfl (by simp) rfl (by kernel_rfl) fun hs=>?_
 simp only[AI,PV.small,List.length_map,and_true,true_and]at hs
 generalize hr:hOK hn h=r
 by_cases h1:0≤h
 ·by_cases h2:h<hn
  ·simp only[hOK,h1,h2,and_self,decide_true]at hr
   subst hr
   simp +contextual (maxSteps:=4000000) only[↓bdD,bdP,Nat.reduceLT,Nat.reduceBEq,Ai,Nat.reduceAdd,st0,↓reduceIte,Try.f75,ty3,Av,h1,h2]
  ·simp only[hOK,h1,h2,and_false,decide_false]at hr
   subst hr
   simp +contextual (maxSteps:=4000000) only[↓bdD,bdP,Nat.reduceLT,Nat.reduceBEq,Ai,Nat.reduceAdd,st0,↓reduceIte,Try.f75,ty3,Av,h1,h2]
 ·simp only[hOK,h1,false_and,decide_false]at hr
  subst hr
  simp +contextual (maxSteps:=4000000) only[↓bdD,bdP,Nat.reduceLT,Nat.reduceBEq,Ai,st0,↓reduceIte,Try.f75,h1]
theorem lY:Th:=lW lX
noncomputable def EZ:(Int)×(List Lnk)×(Dem)→List PV:=fun (hn,ls,d) => [.agg [I hn,Ax ls],Cq d]
noncomputable def MG:(Int)×(List Lnk)×(Dem)→PV:=fun (hn,ls,d)=>B (Dc hn d)
def MH:(Int)×(List Lnk)×(Dem)→Prop:=fun (hn,ls,d)=>True
noncomputable def e_demanded:Nat×Ent:=(63,.v (Ah EZ MG MH))
theorem Wk:∀i j,EZ i=EZ j→i=j:=by
 rintro ⟨hn₁,ls₁,d₁⟩ ⟨hn₂,ls₂,d₂⟩ h
 simp only[EZ,List.cons.injEq,and_true,PV.lits.injEq,PV.int.injEq,PV.agg.injEq,true_and,AF]at h
 simp [Prod.ext_iff,h] <;> omega
theorem CI (hn:Int) (ls:List Lnk) (d:Dem):Ah EZ MG MH [.agg [I hn,Ax ls],Cq d]=some (B (Dc hn d)):=Ay Wk (i:=(hn,ls,d)) trivial
def MI:Prop:=∀(hn:Int) (ls:List Lnk) (d:Dem) ,VC Try.prog 63 [.agg [I hn,Ax ls],Cq d] (B (Dc hn d))
def MJ:Prop:=AL Try.prog e_demanded.1 e_demanded.2
theorem Wl (c:MI):MJ:=At fun⟨hn,ls,d⟩ h=>c hn ls d
theorem Wm:MI:=by
 rintro hn ls ⟨f,t,b,r,u⟩
 refine A5 AO (l := [e_dhouse]) ((Ad lY Ao)) [] []  Try.func63 rfl (by decide +kernel) (N:=44) rfl (by simp) rfl (by kernel_rfl) fun hs=>?_
 simp only[AI,PV.small,List.length_map,and_true,true_and]at hs
 unfold Dc
 cases g1:hOK hn f
 ·simp +contextual (maxSteps:=4000000) only[↓bdD,bdP,Nat.reduceLT,Nat.reduceBEq,Ai,Nat.reduceAdd,st0,↓reduceIte,e_dhouse,El,Ab,Try.f63,ty3,AV,g1,Bool.false_and]
 cases g2:hOK hn t
 ·simp +contextual (maxSteps:=4000000) only[↓bdD,bdP,Nat.reduceLT,Nat.reduceBEq,Ai,Nat.reduceAdd,st0,↓reduceIte,e_dhouse,El,Ab,Try.f63,ty3,AV,g1,g2,Bool.and_false,Bool.false_and]
 have key:∀q:Bool,(hOK hn f&&hOK hn t&&q)=q:=fun q=>by rw[g1,g2];simp
 by_cases h1:1≤b
 case neg=>simp +contextual (maxSteps:=4000000) only[↓bdD,bdP,Nat.reduceLT,Nat.reduceBEq,Ai,Nat.reduceAdd,st0,↓reduceIte,e_dhouse,El,Ab,Try.f63,ty3,AV,g1,g2,show DT (f,t,b,r,u)=False by simp[DT,h1],h1]
 by_cases h2:b≤1099511627776
 case neg=>simp +contextual (maxSteps:=4000000) only[↓bdD,bdP,Nat.reduceLT,Nat.reduceBEq,Ai,Nat.reduceAdd,st0,↓reduceIte,e_dhouse,El,Ab,Try.f63,ty3,AV,g1,g2,show DT (f,t,b,r,u)=False by simp[DT,h2],h1,h2]
 by_cases h3:0≤r
 case neg=>simp +contextual (maxSteps:=4000000) only[↓bdD,bdP,Nat.reduceLT,Nat.reduceBEq,Ai,Nat.reduceAdd,st0,↓reduceIte,e_dhouse,El,Ab,Try.f63,ty3,AV,g1,g2,show DT (f,t,b,r,u)=False by simp[DT,h3],h1,h2,h3]
 by_cases h4:r≤u
 case neg=>simp +contextual (maxSteps:=4000000) only[↓bdD,bdP,Nat.reduceLT,Nat.reduceBEq,Ai,Nat.reduceAdd,st0,↓reduceIte,e_dhouse,El,Ab,Try.f63,ty3,AV,g1,g2,show DT (f,t,b,r,u)=False by simp[DT,h4],h1,h2,h3,h4]
 by_cases h5:u≤1000000
 case neg=>simp +contextual (maxSteps:=4000000) only[↓bdD,bdP,Nat.reduceLT,Nat.reduceBEq,Ai,Nat.reduceAdd,st0,↓reduceIte,e_dhouse,El,Ab,Try.f63,ty3,AV,g1,g2,show DT (f,t,b,r,u)=False by simp[DT,h5],h1,h2,h3,h4,h5]
 simp +contextual (maxSteps:=4000000) only[↓bdD,bdP,Nat.reduceLT,Nat.reduceBEq,Ai,Nat.reduceAdd,st0,↓reduceIte,e_dhouse,El,Ab,Try.f63,ty3,AV,g1,g2,show DT (f,t,b,r,u)=True by simp[DT,h1,h2,h3,h4,h5],h1,h2,h3,h4,h5]
theorem ML:MJ:=Wl Wm
noncomputable def FP:(Int)×(List Lnk)×(Dem)→List PV:=fun (hn,ls,d) => [.agg [I hn,Ax ls],Cq d]
noncomputable def Ov:(Int)×(List Lnk)×(Dem)→PV:=fun (hn,ls,d)=>B (Dc hn d)
def Ow:(Int)×(List Lnk)×(Dem)→Prop:=fun (hn,ls,d)=>True
noncomputable def e_rdemand:Nat×Ent:=(57,.v (Ah FP Ov Ow))
theorem aW:∀i j,FP i=FP j→i=j:=by
 rintro ⟨hn₁,ls₁,d₁⟩ ⟨hn₂,ls₂,d₂⟩ h
 simp only[FP,List.cons.injEq,and_true,PV.lits.injEq,PV.int.injEq,PV.agg.injEq,true_and,AF]at h
 simp [Prod.ext_iff,h] <;> omega
theorem KG (hn:Int) (ls:List Lnk) (d:Dem):Ah FP Ov Ow [.agg [I hn,Ax ls],Cq d]=some (B (Dc hn d)):=Ay aW (i:=(hn,ls,d)) trivial
def Ox:Prop:=∀(hn:Int) (ls:List Lnk) (d:Dem) ,VC Try.prog 57 [.agg [I hn,Ax ls],Cq d] (B (Dc hn d))
def Oy:Prop:=AL Try.prog e_rdemand.1 e_rdemand.2
theorem aX (c:Ox):Oy:=At fun⟨hn,ls,d⟩ h=>c hn ls d
theorem aY:Ox:=by
 rintro hn ls ⟨f,t,b,r,u⟩
 refine A5 AO (l := [e_rhouse]) ((Ad SX Ao)) [] []  Try.func57 rfl (by decide +kernel) (N:=46) rfl (by simp) rfl (by kernel_rfl) fun hs=>?_
 simp only[AI,PV.small,List.length_map,and_true,true_and]at hs
 unfold Dc
 cases g1:hOK hn f
 ·simp +contextual (maxSteps:=4000000) only[↓bdD,bdP,Nat.reduceLT,Nat.reduceBEq,Ai,Nat.reduceAdd,st0,↓reduceIte,e_rhouse,CM,Ab,Try.f57,ty3,Av,AV,g1,Bool.false_and]
 cases g2:hOK hn t
 ·simp +contextual (maxSteps:=4000000) only[↓bdD,bdP,Nat.reduceLT,Nat.reduceBEq,Ai,Nat.reduceAdd,st0,↓reduceIte,e_rhouse,CM,Ab,Try.f57,ty3,Av,AV,g1,g2,Bool.and_false,Bool.false_and]
 by_cases h1:1≤b
 case neg=>simp +contextual (maxSteps:=4000000) only[↓bdD,bdP,Nat.reduceLT,Nat.reduceBEq,Ai,Nat.reduceAdd,st0,↓reduceIte,e_rhouse,CM,Ab,Try.f57,ty3,Av,AV,g1,g2,show DT (f,t,b,r,u)=False by simp[DT,h1],h1]
 by_cases h2:b≤1099511627776
 case neg=>simp +contextual (maxSteps:=4000000) only[↓bdD,bdP,Nat.reduceLT,Nat.reduceBEq,Ai,Nat.reduceAdd,st0,↓reduceIte,e_rhouse,CM,Ab,Try.f57,ty3,Av,AV,g1,g2,show DT (f,t,b,r,u)=False by simp[DT,h2],h1,h2]
 by_cases h3:0≤r
 case neg=>simp +contextual (maxSteps:=4000000) only[↓bdD,bdP,Nat.reduceLT,Nat.reduceBEq,Ai,Nat.reduceAdd,st0,↓reduceIte,e_rhouse,CM,Ab,Try.f57,ty3,Av,AV,g1,g2,show DT (f,t,b,r,u)=False by simp[DT,h3],h1,h2,h3]
 by_cases h4:r≤u
 case neg=>simp +contextual (maxSteps:=4000000) only[↓bdD,bdP,Nat.reduceLT,Nat.reduceBEq,Ai,Nat.reduceAdd,st0,↓reduceIte,e_rhouse,CM,Ab,Try.f57,ty3,Av,AV,g1,g2,show DT (f,t,b,r,u)=False by simp[DT,h4],h1,h2,h3,h4]
 by_cases h5:u≤1000000
 case neg=>simp +contextual (maxSteps:=4000000) only[↓bdD,bdP,Nat.reduceLT,Nat.reduceBEq,Ai,Nat.reduceAdd,st0,↓reduceIte,e_rhouse,CM,Ab,Try.f57,ty3,Av,AV,g1,g2,show DT (f,t,b,r,u)=False by simp[DT,h5],h1,h2,h3,h4,h5]
 simp +contextual (maxSteps:=4000000) only[↓bdD,bdP,Nat.reduceLT,Nat.reduceBEq,Ai,Nat.reduceAdd,st0,↓reduceIte,e_rhouse,CM,Ab,Try.f57,ty3,Av,AV,g1,g2,show DT (f,t,b,r,u)=True by simp[DT,h1,h2,h3,h4,h5],h1,h2,h3,h4,h5]
theorem aZ:Oy:=aX aY
end Sim
namespace Sim
open Go Go.Proofs
attribute [local congr] Ap Aq Am AD As Ar Aw Gm
def Ca (ls:List Lnk) (s:Snd):Lnk:=ls.getD s.1.toNat dL
def IY (ls:List Lnk) (l:List Snd) (i:Nat):Int×Int×Int :=
 if i % 2=0 then ((l.getD (i / 2) dS).2.1,(Ca ls (l.getD (i / 2) dS)).1,-(l.getD (i / 2) dS).2.2)else ((l.getD (i / 2) dS).2.1,(Ca ls (l.getD (i / 2) dS)).2.1,(l.getD (i / 2) dS).2.2)
abbrev Adq (x:Int×Int×Int):List PV := [I x.1,.agg [I x.2.1,I x.2.2]]
def ysL (ls:List Lnk) (l:List Snd):List (List PV):=(List.range (2*l.length)).map fun i=>Adq (IY ls l i)
theorem lZ {ls:List Lnk} {l:List Snd} {i:Nat} (h:i<2*l.length):(ysL ls l)[i]?=some (Adq (IY ls l i)):=by
 simp [ysL,h]
theorem Wn {ls:List Lnk} {l:List Snd}:(ysL ls l).length=2*l.length:=by simp[ysL]
theorem Adr {ls:List Lnk} {l:List Snd} {i:Nat} {y:List PV} (h:(ysL ls l)[i]?=some y):i<2*l.length∧y=Adq (IY ls l i):=by
 have hlt:=(List.getElem?_eq_some_iff.1 h).1
 rw [Wn]at hlt
 rw [lZ hlt]at h
 exact ⟨hlt,(Option.some.inj h).symm⟩
theorem Ti {ls:List Lnk} {l:List Snd} {k:Nat}:IY ls l (2*k)=((l.getD k dS).2.1,(Ca ls (l.getD k dS)).1,-(l.getD k dS).2.2):=by
 unfold IY
 rw [if_pos (by omega),show 2*k / 2=k by omega]
theorem Xm {ls:List Lnk} {l:List Snd} {k:Nat}:IY ls l (2*k+1)=((l.getD k dS).2.1,(Ca ls (l.getD k dS)).2.1,(l.getD k dS).2.2):=by
 unfold IY
 rw [if_neg (by omega),show (2*k+1) / 2=k by omega]
abbrev mA (hn:Int) (ls:List Lnk) (l:List Snd):PV:=.func (.func 80) [] [.vptr [AA l] 0,.vptr [I hn,Ax ls] 0]
noncomputable def FQ:(Int)×(List Lnk)×(List Snd)→List PV:=fun (hn,ls,l) => [.agg [I hn,Ax ls],AA l]
noncomputable def Oz:(Int)×(List Lnk)×(List Snd)→PV:=fun (hn,ls,l)=>mA hn ls l
def OA:(Int)×(List Lnk)×(List Snd)→Prop:=fun (hn,ls,l)=>True
noncomputable def e_changes:Nat×Ent:=(76,.v (Ah FQ Oz OA))
theorem bB:∀i j,FQ i=FQ j→i=j:=by
 rintro ⟨hn₁,ls₁,l₁⟩ ⟨hn₂,ls₂,l₂⟩ h
 simp only[FQ,List.cons.injEq,and_true,PV.lits.injEq,PV.int.injEq,PV.agg.injEq,true_and,AN,AF]at h
 simp [h] <;> omega
theorem KH (hn:Int) (ls:List Lnk) (l:List Snd):Ah FQ Oz OA [.agg [I hn,Ax ls],AA l]=some (mA hn ls l):=Ay bB (i:=(hn,ls,l)) trivial
def OB:Prop:=∀(hn:Int) (ls:List Lnk) (l:List Snd) ,VC Try.prog 76 [.agg [I hn,Ax ls],AA l] (mA hn ls l)
def OC:Prop:=AL Try.prog e_changes.1 e_changes.2
theorem bC (c:OB):OC:=At fun⟨hn,ls,l⟩ h=>c hn ls l
theorem bE:OB:=by
 intro hn ls l
 refine A5 AO (l := []) (Ao) [] []  Try.func76 rfl (by decide +kernel) (N:=6) rfl (by simp) rfl (by kernel_rfl) fun hs=>?_
 simp only[AI,PV.small,List.length_map,and_true,true_and]at hs
 simp +contextual (maxSteps:=4000000) only[↓bdD,bdP,Nat.reduceLT,Nat.reduceBEq,Ai,Nat.reduceAdd,st0,↓reduceIte,Try.f76]
 simp [DRx,mA,R9,Ds,R6,Mf,Ab,Ac,Fm,FI]
theorem bF:OC:=bC bE
theorem bG {hn:Int} {ls:List Lnk} {l:List Snd} (ok:OKr hn ls l):Qg Try.prog 0 80 [] [.vptr [AA l] 0,.vptr [I hn,Ax ls] 0] (ysL ls l):=by
 refine Wa (l := []) Ao [] [] 0 Try.func80 rfl (by decide +kernel) rfl (N:=46) rfl (by simp) (fun y=>by kernel_rfl) fun y H J E st0 hm h0 hstab hy=>?_
 have hlen:=ok.len
 have hyl:=Wn (ls:=ls) (l:=l)
 obtain ⟨ob0,M0⟩:=st0
 simp +contextual (maxSteps:=4000000) only[↓bdD,bdP,Nat.reduceLT,Nat.reduceAdd,↓reduceIte,AJ]
 refine Au (hm:=hm) [5,8,9,10,11,12,13,14,15,16,17,18,19,20,21,22,23,24,25,26,27,28,29,30,31,32,33,34,35,36,37,38,39,40,41,42,43,44,45] l.length (fun k ρ st'=>ρ 8=I k∧J (2*k) st'∧M0≤st'.next) (.refl _) ?_ ?_
 ·simp +contextual (maxSteps:=4000000) only[↓bdD,bdP,Nat.reduceMul]
  exact h0
 ·rintro k ρ ⟨ob,M⟩ hk ⟨h8,hJ,hMM⟩
  dsimp only at hMM
  by_cases hlt:k<l.length
  ·have hw1:IntKind.i64.wrap ((k:Int)+1)=((k+1:Nat):Int):=by rw[Af (by omega) (by omega)];omega
   have e1:=ok.link k hlt
   have hb:=ok.bytes k hlt
   have c1:=lZ (ls:=ls) (l:=l) (i:=2*k) (by omega)
   have c2:=lZ (ls:=ls) (l:=l) (i:=2*k+1) (by omega)
   rw [Ti]at c1
   rw [Xm]at c2
   unfold Ca at c1 c2
   generalize hx:l.getD k dS=x at *
   have hwn:IntKind.i64.wrap (0-x.2.2) = -x.2.2:=by rw[Af (by omega) (by omega)];omega
   have h5:=DF e1.1 e1.2
   have h6:=Int.toNat_of_nonneg e1.1
   generalize x.1.toNat=kk at *
   simp +contextual (maxSteps:=4000000) only[↓bdD,bdP,Nat.reduceLT,Nat.reduceBEq,Nat.reduceAdd,Nat.reduceLeDiff,reduceCtorEq,Store.new,Store.set,↓reduceIte,AH,Br,EB,Nat.mul_one,ty3,BC,Av,AJ,Cg,BV,Mp,h8,hlt,hx,h5,←h6,hwn]
   have hJ':∀o o2,J (2*k) ⟨Aa (Aa ob M o) M o2,M+1⟩:=fun o o2=>hstab _ _ _ hJ (by simp) (fun x hx=>(PS (by simp;exact Nat.ne_of_lt hx)).trans (PS (by simp;exact Nat.ne_of_lt hx)))
   refine hy (2*k) _ _ _ c1 (hJ' _ _) (fun st2 h2 hk2=>?_) (fun st2 h2=>?_)
   ·obtain ⟨ob2,M2⟩:=st2
    have hM:=hk2.2 M hMM (by simp) (fun r=>by simp[Aa])
    have hM2:=hk2.1
    dsimp only at hM hM2
    rw [Of]at hM
    simp +contextual (maxSteps:=4000000) only[↓bdD,bdP,Nat.reduceLT,Nat.reduceBEq,Nat.reduceAdd,Nat.reduceLeDiff,reduceCtorEq,↓reduceIte,Br,Ht,Nat.mul_one,ty3,BC,Av,Cg,BV,Mp,hM,h8,h5]
    refine hy (2*k+1) _ _ _ c2 h2 (fun st3 h3 hk3=>?_) (fun st3 h3=>?_)
    ·have hM3:=hk3.1
     dsimp only at hM3
     simp +contextual (maxSteps:=4000000) only[↓bdD,bdP,hw1]
     exact ⟨by rw[show 2*(k+1)=2*k+1+1 by omega];exact h3,by omega⟩
    ·simp +contextual (maxSteps:=4000000) only[↓bdD,bdP]
     exact .inr h3
   ·simp +contextual (maxSteps:=4000000) only[↓bdD,bdP,↓reduceIte]
    exact .inr h2
  ·have e:k=l.length:=by omega
   subst e
   simp +contextual (maxSteps:=4000000) only[↓bdD,bdP,Nat.reduceLT,Nat.reduceBEq,reduceCtorEq,↓reduceIte,h8,hyl]
   exact .inl hJ
end Sim
namespace Sim
open Go Go.Proofs
attribute [local congr] Ap Aq Am AD As Ar Aw Gm
theorem mC {X:Cfg} {N:Nat} {Q:IExit→IState→Prop} {c:Code} {ks:List Kf} {A:Prop} (T:(Nat→PV)→Store→Prop) (h1:(∀ρ st,T ρ st→run X N Q c ks ⟨ρ,st⟩)→A) (h2:∀ρ st,T ρ st→run X N Q c ks ⟨ρ,st⟩):A:=h1 h2
def Hy (d:Dem) (at_ tick:Int):Int:=if at_=d.1∧d.2.2.2.1≤tick then d.2.2.1 else 0
def IC (ls:List Lnk) (s:Snd) (at_ tick:Int):Int:=if s.2.1<tick then (if (Ca ls s).2.1=at_ then s.2.2 else 0)-(if (Ca ls s).1=at_ then s.2.2 else 0)else 0
def ID (ls:List Lnk) (l:List Snd) (at_ tick:Int):Nat→Int
 | 0=>0
 | k+1=>ID ls l at_ tick k+IC ls (l.getD k dS) at_ tick
def B1 (ls:List Lnk) (l:List Snd) (d:Dem) (at_ tick:Int):Int:=Hy d at_ tick+ID ls l at_ tick l.length
def hyT (ls:List Lnk) (l:List Snd) (at_ tick:Int):Nat→Int
 | 0=>0
 | i+1=>hyT ls l at_ tick i+if (IY ls l i).1<tick∧(IY ls l i).2.1=at_ then (IY ls l i).2.2 else 0
theorem Xn {ls:List Lnk} {l:List Snd} {at_ tick:Int}:∀k,hyT ls l at_ tick (2*k)=ID ls l at_ tick k
 | 0=>rfl
 | k+1=>by
  show hyT ls l at_ tick (2*k+1+1)=_
  simp only[hyT,Xm,Ti,ID,IC]
  rw [Xn k]
  by_cases h:(l.getD k dS).2.1<tick
  ·simp only[h,true_and,if_true]
   split <;> split <;> omega
  ·simp only[h,false_and,if_false]
   omega
theorem mD {hn:Int} {ls:List Lnk} {l:List Snd} (ok:OKr hn ls l) {k:Nat} (hk:k<l.length) (at_ tick:Int) : -1073741824≤IC ls (l.getD k dS) at_ tick∧IC ls (l.getD k dS) at_ tick≤1073741824:=by
 have := ok.bytes k hk
 unfold IC
 split
 ·split <;> split <;> omega
 ·omega
theorem Tj {hn:Int} {ls:List Lnk} {l:List Snd} (ok:OKr hn ls l) (at_ tick:Int):∀k,k≤l.length → -(1073741824*(k:Int))≤ID ls l at_ tick k∧ID ls l at_ tick k≤1073741824*(k:Int)
 | 0,_=>by simp[ID]
 | k+1,hk=>by
  have ih:=Tj ok at_ tick k (by omega)
  have := mD ok (show k<l.length by omega) at_ tick
  simp only[ID]
  omega
theorem mE {hn:Int} {ls:List Lnk} {l:List Snd} (ok:OKr hn ls l) (at_ tick:Int):∀i,i≤2*l.length → -(1073741824*(i:Int))≤hyT ls l at_ tick i∧hyT ls l at_ tick i≤1073741824*(i:Int)
 | 0,_=>by simp[hyT]
 | i+1,hi=>by
  have ih:=mE ok at_ tick i (by omega)
  have hb:=ok.bytes (i / 2) (by omega)
  simp only[hyT]
  split
  ·unfold IY
   split <;> dsimp only <;> omega
  ·omega
def Wo (d:Dem):Prop:=0≤d.2.2.1∧d.2.2.1≤1099511627776
theorem Tk {d:Dem} (h:Wo d) (at_ tick:Int):0≤Hy d at_ tick∧Hy d at_ tick≤1099511627776:=by
 unfold Wo at h
 unfold Hy
 split <;> omega
noncomputable def JU:(Int)×(List Lnk)×(List Snd)×(Dem)×(Int)×(Int)→List PV:=fun (hn,ls,l,d,at_,tick) => [.agg [I hn,Ax ls],AA l,Cq d,I at_,I tick]
noncomputable def Xo:(Int)×(List Lnk)×(List Snd)×(Dem)×(Int)×(Int)→PV:=fun (hn,ls,l,d,at_,tick)=>I (B1 ls l d at_ tick)
def Xp:(Int)×(List Lnk)×(List Snd)×(Dem)×(Int)×(Int)→Prop:=fun (hn,ls,l,d,at_,tick)=>OKr hn ls l∧Wo d
noncomputable def e_stock:Nat×Ent:=(64,.v (Ah JU Xo Xp))
theorem xJ:∀i j,JU i=JU j→i=j:=by
 rintro ⟨hn₁,ls₁,l₁,d₁,at_₁,tick₁⟩ ⟨hn₂,ls₂,l₂,d₂,at_₂,tick₂⟩ h
 simp only[JU,List.cons.injEq,and_true,PV.lits.injEq,PV.int.injEq,PV.agg.injEq,true_and,AN,AF]at h
 simp [Prod.ext_iff,h] <;> omega
theorem JV (hn:Int) (ls:List Lnk) (l:List Snd) (d:Dem) (at_:Int) (tick:Int):Ah JU Xo Xp [.agg [I hn,Ax ls],AA l,Cq d,I at_,I tick]=@ite (Option (PV)) (OKr hn ls l∧Wo d) (Classical.propDecidable _) (some (I (B1 ls l d at_ tick))) none:=BP xJ (hn,ls,l,d,at_,tick)
def Xq:Prop:=∀(hn:Int) (ls:List Lnk) (l:List Snd) (d:Dem) (at_:Int) (tick:Int) (h:OKr hn ls l∧Wo d) ,VC Try.prog 64 [.agg [I hn,Ax ls],AA l,Cq d,I at_,I tick] (I (B1 ls l d at_ tick))
def Xr:Prop:=AL Try.prog e_stock.1 e_stock.2
theorem xK (c:Xq):Xr:=At fun⟨hn,ls,l,d,at_,tick⟩ h=>c hn ls l d at_ tick h
theorem xL:Xq:=by
 rintro hn ls l d at_ tick ⟨ok,hd⟩
 refine VS AO (l := [e_changes]) ((Ad bF Ao)) [] [] 0 1 Try.func64 rfl (by decide +kernel) (N:=45) rfl (by simp) rfl (by kernel_rfl) fun hs=>?_
 simp only[AI,PV.small,List.length_map,and_true,true_and]at hs
 have h0:=Tk hd at_ tick
 have hlen:=ok.len
 generalize hr:B1 ls l d at_ tick=r
 have hr2:Hy d at_ tick+hyT ls l at_ tick (2*l.length)=r:=by rw[←hr,Xn];rfl
 have hle:=mE ok at_ tick
 obtain ⟨c,hc⟩:∃c,c=Hy d at_ tick:=⟨_,rfl⟩
 have tail:∀(ρ:Nat→PV) (st:Store),True:=fun _ _=>trivial
 have hcases:(at_=d.1∧d.2.2.2.1≤tick∧c=d.2.2.1)∨(at_=d.1∧¬d.2.2.2.1≤tick∧c=0)∨(¬at_=d.1∧c=0):=by
  unfold Hy at hc
  by_cases h1:at_=d.1
  ·by_cases h2:d.2.2.2.1≤tick
   ·rw [if_pos ⟨h1,h2⟩]at hc;exact .inl ⟨h1,h2,hc⟩
   ·rw [if_neg (fun h=>h2 h.2)]at hc;exact .inr (.inl ⟨h1,h2,hc⟩)
  ·rw [if_neg (fun h=>h1 h.1)]at hc;exact .inr (.inr ⟨h1,hc⟩)
 rw [←hc]at hr2 h0
 refine mC (X:=?X) (N:=?N) (Q:=?Q) (c:=?c) (ks:=?ks) (fun ρ st=>ρ 8=.vptr [I at_] 0∧ρ 9=.vptr [I tick] 0∧ρ 11=.ptr 0 0 0 0∧ρ 28=mA hn ls l∧st.obj 0=some (.arr 0 1 [I c])∧st.next=1) ?h1 ?h2
 case h1 =>
  intro tail
  rcases hcases with ⟨g1,g2,g3⟩ | ⟨g1,g2,g3⟩ | ⟨g1,g3⟩
  ·simp +contextual (maxSteps:=4000000) only[↓bdD,bdP,Nat.reduceLT,Nat.reduceBEq,Nat.reduceAdd,Nat.reduceLeDiff,Store.new,Store.set,↓reduceIte,e_changes,KH,Ac,Ab,Try.f64,ty3,Av,AJ,AV,g1,g2]
   refine tail _ _ ?_
   simp +contextual (maxSteps:=4000000) only[↓bdD,bdP,Nat.reduceBEq,g1,g3]
  ·simp +contextual (maxSteps:=4000000) only[↓bdD,bdP,Nat.reduceLT,Nat.reduceBEq,Nat.reduceAdd,Nat.reduceLeDiff,Store.new,Store.set,↓reduceIte,e_changes,KH,Ac,Ab,Try.f64,ty3,Av,AJ,AV,g1,g2]
   refine tail _ _ ?_
   simp +contextual (maxSteps:=4000000) only[↓bdD,bdP,Nat.reduceBEq,g1,g3]
  ·simp +contextual (maxSteps:=4000000) only[↓bdD,bdP,Nat.reduceLT,Nat.reduceBEq,Nat.reduceAdd,Nat.reduceLeDiff,Store.new,Store.set,↓reduceIte,e_changes,KH,Ac,Ab,Try.f64,ty3,Av,AJ,AV,g1]
   refine tail _ _ ?_
   simp +contextual (maxSteps:=4000000) only[↓bdD,bdP,Nat.reduceBEq,g3]
 case h2 =>
  rintro ρ ⟨ob,M⟩ ⟨h8,h9,h11,h28,ho,hM⟩
  dsimp only at ho hM
  subst hM
  refine Wb (ys:=ysL ls l) (f:=80) (first := []) (captured := [.vptr [AA l] 0,.vptr [I hn,Ax ls] 0]) rfl rfl (AY rfl) ?_ (bG ok) rfl ?_ (by kernel_rfl) (by kernel_rfl)
   (fun i st'=>st'.obj 0=some (.arr 0 1 [I (c+hyT ls l at_ tick i)])∧0<st'.next) (fun e st'=>False) ?_ ?_ ?_ ?_ ?_ ?_ ?_
  ·simp +contextual (maxSteps:=4000000) only[↓bdD,bdP,h28]
  ·intro y hy
   obtain ⟨x,_,rfl⟩:=List.mem_map.1 hy
   rfl
  ·intro i
   exact Stays.obj (fun _=>by simp)
  ·intro e
   exact Stays.const
  ·exact ⟨by simp[hyT,ho],by simp⟩
  ·rintro i y ⟨ob2,M2⟩ id lr hy hid hlp hbase ⟨a0,a1⟩
   obtain ⟨hi,rfl⟩:=Adr hy
   dsimp only at hid hlp hbase a0 a1
   have hstep:hyT ls l at_ tick (i+1)=hyT ls l at_ tick i+if (IY ls l i).1<tick∧(IY ls l i).2.1=at_ then (IY ls l i).2.2 else 0:=rfl
   have hl1:=hle i (by omega)
   have hl2:=hle (i+1) (by omega)
   rw [hstep]at hl2 ⊢
   generalize IY ls l i=x at *
   have d0:¬id=0:=by omega
   have d3:¬id=M2:=by omega
   have e0:¬0=M2:=by omega
   have f0:¬0=id:=by omega
   have f3:¬M2=id:=by omega
   have hkeep2:∀(o1 o2 o3 o4:IObj),Keep 1 ⟨ob2,M2⟩ ⟨Aa (Aa (Aa (Aa ob2 M2 (some o1)) M2 (some o2)) id (some o3)) 0 (some o4),M2+1⟩:=fun o1 o2 o3 o4=>⟨by simp,fun x h1 h2 h3=>by
    dsimp only at h2 h3 ⊢
    have n1:x≠M2:=by omega
    have n2:x≠id:=fun e=>h3 lr (by rw[e];exact hlp)
    have n3:x≠0:=by omega
    simp [Aa,n1,n2,n3]⟩
   have hkeep:∀(o1 o2 o3:IObj),Keep 1 ⟨ob2,M2⟩ ⟨Aa (Aa (Aa ob2 M2 (some o1)) M2 (some o2)) id (some o3),M2+1⟩:=fun o1 o2 o3=>⟨by simp,fun x h1 h2 h3=>by
    dsimp only at h2 h3 ⊢
    have n1:x≠M2:=by omega
    have n2:x≠id:=fun e=>h3 lr (by rw[e];exact hlp)
    simp [Aa,n1,n2]⟩
   by_cases c1:x.1<tick
   ·by_cases c2:x.2.1=at_
    ·rw [if_pos ⟨c1,c2⟩]at hl2 ⊢
     have hw:IntKind.i64.wrap (c+hyT ls l at_ tick i+x.2.2)=c+(hyT ls l at_ tick i+x.2.2):=by rw[Af (by omega) (by omega)];omega
     simp +contextual (maxSteps:=4000000) only[↓bdD,bdP,Nat.reduceLT,Nat.reduceBEq,Nat.reduceAdd,Nat.reduceLeDiff,Int.reduceLT,Int.reduceLE,Int.reduceToNat,Store.new,Store.set,↓reduceIte,Nat.mul_one,ty3,Mp,hlp,h8,h9,h11,a0,d0,d3,e0,f0,f3,EV,Co,c1,c2,hw]
     exact fun rb=>⟨by omega,by omega,hkeep2 _ _ _ _⟩
    ·rw [if_neg (fun h=>c2 h.2),Int.add_zero]at hl2 ⊢
     simp +contextual (maxSteps:=4000000) only[↓bdD,bdP,Nat.reduceLT,Nat.reduceBEq,Nat.reduceAdd,Int.reduceLT,Int.reduceToNat,Store.new,Store.set,↓reduceIte,Nat.mul_one,ty3,Mp,hlp,h8,h9,a0,d3,e0,f0,f3,EV,Co,c1,c2]
     exact fun rb=>⟨by omega,by omega,hkeep _ _ _⟩
   ·rw [if_neg (fun h=>c1 h.1),Int.add_zero]at hl2 ⊢
    simp +contextual (maxSteps:=4000000) only[↓bdD,bdP,Nat.reduceLT,Nat.reduceBEq,Nat.reduceAdd,Store.new,Store.set,↓reduceIte,ty3,Mp,hlp,h9,a0,d3,e0,f0,EV,Co,c1]
    exact fun rb=>⟨by omega,by omega,hkeep _ _ _⟩
  ·rintro ⟨ob2,M2⟩ ⟨a0,a1⟩
   dsimp only at a0 a1
   rw [Wn,hr2]at a0
   simp +contextual (maxSteps:=4000000) only[↓bdD,bdP,Nat.reduceLT,Ai,Nat.reduceAdd,↓reduceIte,ty3,h11,a0]
  ·rintro i ⟨ob2,M2⟩ h
   exact h.elim
  ·rintro ⟨ob2,M2⟩ h
   exact h.elim
theorem Xs:Xr:=xK xL
end Sim
