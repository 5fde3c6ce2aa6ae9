/- What functions of this seat compute, by values: contracts (lemmas of the statement's proof, under the conditions that each names). -/
import Derived.Test.YtppljhpecoeakaaQN4
set_option maxRecDepth 10000
set_option maxHeartbeats 2000000
set_option linter.unusedVariables false
set_option linter.unusedSimpArgs false
namespace Sim
open Go Go.Proofs
attribute [local congr] Ap Aq Al AC As Ar Av
abbrev Dem:=Int×Int×Int×Int×Int
abbrev Cr (d:Dem):PV:=.agg [I d.1,I d.2.1,I d.2.2.1,I d.2.2.2.1,I d.2.2.2.2]
def DU (d:Dem):Prop:=1≤d.2.2.1∧d.2.2.1≤1099511627776∧0≤d.2.2.2.1∧d.2.2.2.1≤d.2.2.2.2∧d.2.2.2.2≤1000000
instance {d:Dem}:Decidable (DU d):=inferInstanceAs (Decidable (_∧_))
def Dd (hn:Int) (d:Dem):Bool:=hOK hn d.1&&hOK hn d.2.1&&decide (DU d)
noncomputable def Hz:(Int)×(List Lnk)×(Int)→List PV:=fun (hn,ls,h) => [I h,.vptr [I hn,Az ls] 0]
noncomputable def Tk:(Int)×(List Lnk)×(Int)→PV:=fun (hn,ls,h)=>B (hOK hn h)
def Tl:(Int)×(List Lnk)×(Int)→Prop:=fun (hn,ls,h)=>True
noncomputable def e_dhouse:Nat×Ent:=(75,.v (Ah Hz Tk Tl))
theorem lZ:∀i j,Hz i=Hz j→i=j:=by
 rintro ⟨hn₁,ls₁,h₁⟩ ⟨hn₂,ls₂,h₂⟩ h
 simp only[Hz,List.cons.injEq,and_true,PV.lits.injEq,PV.int.injEq,PV.vptr.injEq,true_and,AG]at h
 simp [h] <;> omega
theorem Es (hn:Int) (ls:List Lnk) (h:Int):Ah Hz Tk Tl [I h,.vptr [I hn,Az ls] 0]=some (B (hOK hn h)):=AA lZ (i:=(hn,ls,h)) trivial
def Tm:Prop:=∀(hn:Int) (ls:List Lnk) (h:Int) ,VC Try.prog 75 [I h,.vptr [I hn,Az ls] 0] (B (hOK hn h))
def Tn:Prop:=AM Try.prog e_dhouse.1 e_dhouse.2
theorem mA (c:Tm):Tn:=At fun⟨hn,ls,h⟩ h=>c hn ls h
theorem mC:Tm:=by
 intro hn ls h
 refine A5 AP (l := []) (Ao) [] []  Try.func75 rfl (by decide +kernel) (N:=12) rfl (by simp) rfl (by kernel_rfl) fun hs=>?_
 simp only[AI,PV.small,List.length_map,and_true,true_and]at hs
 generalize hr:hOK hn h=r
 by_cases h1:0≤h
 ·by_cases h2:h<hn
  ·simp only[hOK,h1,h2,and_self,decide_true]at hr
   subst hr
   simp +contextual (maxSteps:=4000000) only[↓bdD,bdP,Nat.reduceLT,Nat.reduceBEq,Ai,Nat.reduceAdd,st0,↓reduceIte,Try.f75,ty3,Aw,h1,h2]
  ·simp only[hOK,h1,h2,and_false,decide_false]at hr
   subst hr
   simp +contextual (maxSteps:=4000000) only[↓bdD,bdP,Nat.reduceLT,Nat.reduceBEq,Ai,Nat.reduceAdd,st0,↓reduceIte,Try.f75,ty3,Aw,h1,h2]
 ·simp only[hOK,h1,false_and,decide_false]at hr
  subst hr
  simp +contextual (maxSteps:=4000000) only[↓bdD,bdP,Nat.reduceLT,Nat.reduceBEq,Ai,st0,↓reduceIte,Try.f75,h1]
theorem mD:Tn:=mA mC
noncomputable def Ff:(Int)×(List Lnk)×(Dem)→List PV:=fun (hn,ls,d) => [.agg [I hn,Az ls],Cr d]
noncomputable def MM:(Int)×(List Lnk)×(Dem)→PV:=fun (hn,ls,d)=>B (Dd hn d)
def MN:(Int)×(List Lnk)×(Dem)→Prop:=fun (hn,ls,d)=>True
noncomputable def e_demanded:Nat×Ent:=(63,.v (Ah Ff MM MN))
theorem Wh:∀i j,Ff i=Ff j→i=j:=by
 rintro ⟨hn₁,ls₁,d₁⟩ ⟨hn₂,ls₂,d₂⟩ h
 simp only[Ff,List.cons.injEq,and_true,PV.lits.injEq,PV.int.injEq,PV.agg.injEq,true_and,AG]at h
 simp [Prod.ext_iff,h] <;> omega
theorem CM (hn:Int) (ls:List Lnk) (d:Dem):Ah Ff MM MN [.agg [I hn,Az ls],Cr d]=some (B (Dd hn d)):=AA Wh (i:=(hn,ls,d)) trivial
def MO:Prop:=∀(hn:Int) (ls:List Lnk) (d:Dem) ,VC Try.prog 63 [.agg [I hn,Az ls],Cr d] (B (Dd hn d))
def MP:Prop:=AM Try.prog e_demanded.1 e_demanded.2
theorem Wi (c:MO):MP:=At fun⟨hn,ls,d⟩ h=>c hn ls d
theorem Wj:MO:=by
 rintro hn ls ⟨f,t,b,r,u⟩
 refine A5 AP (l := [e_dhouse]) ((Ae mD Ao)) [] []  Try.func63 rfl (by decide +kernel) (N:=44) rfl (by simp) rfl (by kernel_rfl) fun hs=>?_
 simp only[AI,PV.small,List.length_map,and_true,true_and]at hs
 unfold Dd
 cases g1:hOK hn f
 ·simp +contextual (maxSteps:=4000000) only[↓bdD,bdP,Nat.reduceLT,Nat.reduceBEq,Ai,Nat.reduceAdd,st0,↓reduceIte,e_dhouse,Es,Ab,Try.f63,ty3,AX,g1,Bool.false_and]
 cases g2:hOK hn t
 ·simp +contextual (maxSteps:=4000000) only[↓bdD,bdP,Nat.reduceLT,Nat.reduceBEq,Ai,Nat.reduceAdd,st0,↓reduceIte,e_dhouse,Es,Ab,Try.f63,ty3,AX,g1,g2,Bool.and_false,Bool.false_and]
 have key:∀q:Bool,(hOK hn f&&hOK hn t&&q)=q:=fun q=>by rw[g1,g2];simp
 by_cases h1:1≤b
 case neg=>simp +contextual (maxSteps:=4000000) only[↓bdD,bdP,Nat.reduceLT,Nat.reduceBEq,Ai,Nat.reduceAdd,st0,↓reduceIte,e_dhouse,Es,Ab,Try.f63,ty3,AX,g1,g2,show DU (f,t,b,r,u)=False by simp[DU,h1],h1]
 by_cases h2:b≤1099511627776
 case neg=>simp +contextual (maxSteps:=4000000) only[↓bdD,bdP,Nat.reduceLT,Nat.reduceBEq,Ai,Nat.reduceAdd,st0,↓reduceIte,e_dhouse,Es,Ab,Try.f63,ty3,AX,g1,g2,show DU (f,t,b,r,u)=False by simp[DU,h2],h1,h2]
 by_cases h3:0≤r
 case neg=>simp +contextual (maxSteps:=4000000) only[↓bdD,bdP,Nat.reduceLT,Nat.reduceBEq,Ai,Nat.reduceAdd,st0,↓reduceIte,e_dhouse,Es,Ab,Try.f63,ty3,AX,g1,g2,show DU (f,t,b,r,u)=False by simp[DU,h3],h1,h2,h3]
 by_cases h4:r≤u
 case neg=>simp +contextual (maxSteps:=4000000) only[↓bdD,bdP,Nat.reduceLT,Nat.reduceBEq,Ai,Nat.reduceAdd,st0,↓reduceIte,e_dhouse,Es,Ab,Try.f63,ty3,AX,g1,g2,show DU (f,t,b,r,u)=False by simp[DU,h4],h1,h2,h3,h4]
 by_cases h5:u≤1000000
 case neg=>simp +contextual (maxSteps:=4000000) only[↓bdD,bdP,Nat.reduceLT,Nat.reduceBEq,Ai,Nat.reduceAdd,st0,↓reduceIte,e_dhouse,Es,Ab,Try.f63,ty3,AX,g1,g2,show DU (f,t,b,r,u)=False by simp[DU,h5],h1,h2,h3,h4,h5]
 simp +contextual (maxSteps:=4000000) only[↓bdD,bdP,Nat.reduceLT,Nat.reduceBEq,Ai,Nat.reduceAdd,st0,↓reduceIte,e_dhouse,Es,Ab,Try.f63,ty3,AX,g1,g2,show DU (f,t,b,r,u)=True by simp[DU,h1,h2,h3,h4,h5],h1,h2,h3,h4,h5]
theorem MQ:MP:=Wi Wj
noncomputable def FX:(Int)×(List Lnk)×(Dem)→List PV:=fun (hn,ls,d) => [.agg [I hn,Az ls],Cr d]
noncomputable def OB:(Int)×(List Lnk)×(Dem)→PV:=fun (hn,ls,d)=>B (Dd hn d)
def OC:(Int)×(List Lnk)×(Dem)→Prop:=fun (hn,ls,d)=>True
noncomputable def e_rdemand:Nat×Ent:=(57,.v (Ah FX OB OC))
theorem aV:∀i j,FX i=FX j→i=j:=by
 rintro ⟨hn₁,ls₁,d₁⟩ ⟨hn₂,ls₂,d₂⟩ h
 simp only[FX,List.cons.injEq,and_true,PV.lits.injEq,PV.int.injEq,PV.agg.injEq,true_and,AG]at h
 simp [Prod.ext_iff,h] <;> omega
theorem KL (hn:Int) (ls:List Lnk) (d:Dem):Ah FX OB OC [.agg [I hn,Az ls],Cr d]=some (B (Dd hn d)):=AA aV (i:=(hn,ls,d)) trivial
def OD:Prop:=∀(hn:Int) (ls:List Lnk) (d:Dem) ,VC Try.prog 57 [.agg [I hn,Az ls],Cr d] (B (Dd hn d))
def OE:Prop:=AM Try.prog e_rdemand.1 e_rdemand.2
theorem aW (c:OD):OE:=At fun⟨hn,ls,d⟩ h=>c hn ls d
theorem aX:OD:=by
 rintro hn ls ⟨f,t,b,r,u⟩
 refine A5 AP (l := [e_rhouse]) ((Ae S5 Ao)) [] []  Try.func57 rfl (by decide +kernel) (N:=46) rfl (by simp) rfl (by kernel_rfl) fun hs=>?_
 simp only[AI,PV.small,List.length_map,and_true,true_and]at hs
 unfold Dd
 cases g1:hOK hn f
 ·simp +contextual (maxSteps:=4000000) only[↓bdD,bdP,Nat.reduceLT,Nat.reduceBEq,Ai,Nat.reduceAdd,st0,↓reduceIte,e_rhouse,CR,Ab,Try.f57,ty3,Aw,AX,g1,Bool.false_and]
 cases g2:hOK hn t
 ·simp +contextual (maxSteps:=4000000) only[↓bdD,bdP,Nat.reduceLT,Nat.reduceBEq,Ai,Nat.reduceAdd,st0,↓reduceIte,e_rhouse,CR,Ab,Try.f57,ty3,Aw,AX,g1,g2,Bool.and_false,Bool.false_and]
 by_cases h1:1≤b
 case neg=>simp +contextual (maxSteps:=4000000) only[↓bdD,bdP,Nat.reduceLT,Nat.reduceBEq,Ai,Nat.reduceAdd,st0,↓reduceIte,e_rhouse,CR,Ab,Try.f57,ty3,Aw,AX,g1,g2,show DU (f,t,b,r,u)=False by simp[DU,h1],h1]
 by_cases h2:b≤1099511627776
 case neg=>simp +contextual (maxSteps:=4000000) only[↓bdD,bdP,Nat.reduceLT,Nat.reduceBEq,Ai,Nat.reduceAdd,st0,↓reduceIte,e_rhouse,CR,Ab,Try.f57,ty3,Aw,AX,g1,g2,show DU (f,t,b,r,u)=False by simp[DU,h2],h1,h2]
 by_cases h3:0≤r
 case neg=>simp +contextual (maxSteps:=4000000) only[↓bdD,bdP,Nat.reduceLT,Nat.reduceBEq,Ai,Nat.reduceAdd,st0,↓reduceIte,e_rhouse,CR,Ab,Try.f57,ty3,Aw,AX,g1,g2,show DU (f,t,b,r,u)=False by simp[DU,h3],h1,h2,h3]
 by_cases h4:r≤u
 case neg=>simp +contextual (maxSteps:=4000000) only[↓bdD,bdP,Nat.reduceLT,Nat.reduceBEq,Ai,Nat.reduceAdd,st0,↓reduceIte,e_rhouse,CR,Ab,Try.f57,ty3,Aw,AX,g1,g2,show DU (f,t,b,r,u)=False by simp[DU,h4],h1,h2,h3,h4]
 by_cases h5:u≤1000000
 case neg=>simp +contextual (maxSteps:=4000000) only[↓bdD,bdP,Nat.reduceLT,Nat.reduceBEq,Ai,Nat.reduceAdd,st0,↓reduceIte,e_rhouse,CR,Ab,Try.f57,ty3,Aw,AX,g1,g2,show DU (f,t,b,r,u)=False by simp[DU,h5],h1,h2,h3,h4,h5]
 simp +contextual (maxSteps:=4000000) only[↓bdD,bdP,Nat.reduceLT,Nat.reduceBEq,Ai,Nat.reduceAdd,st0,↓reduceIte,e_rhouse,CR,Ab,Try.f57,ty3,Aw,AX,g1,g2,show DU (f,t,b,r,u)=True by simp[DU,h1,h2,h3,h4,h5],h1,h2,h3,h4,h5]
theorem aY:OE:=aW aX
end Sim
namespace Sim
open Go Go.Proofs
attribute [local congr] Ap Aq Al AC As Ar Av Gq
def Cd (ls:List Lnk) (s:Snd):Lnk:=ls.getD s.1.toNat dL
def I4 (ls:List Lnk) (l:List Snd) (i:Nat):Int×Int×Int :=
 if i % 2=0 then ((l.getD (i / 2) dS).2.1,(Cd ls (l.getD (i / 2) dS)).1,-(l.getD (i / 2) dS).2.2)else ((l.getD (i / 2) dS).2.1,(Cd ls (l.getD (i / 2) dS)).2.1,(l.getD (i / 2) dS).2.2)
abbrev Adu (x:Int×Int×Int):List PV := [I x.1,.agg [I x.2.1,I x.2.2]]
def ysL (ls:List Lnk) (l:List Snd):List (List PV):=(List.range (2*l.length)).map fun i=>Adu (I4 ls l i)
theorem mE {ls:List Lnk} {l:List Snd} {i:Nat} (h:i<2*l.length):(ysL ls l)[i]?=some (Adu (I4 ls l i)):=by
 simp [ysL,h]
theorem Wk {ls:List Lnk} {l:List Snd}:(ysL ls l).length=2*l.length:=by simp[ysL]
theorem Adv {ls:List Lnk} {l:List Snd} {i:Nat} {y:List PV} (h:(ysL ls l)[i]?=some y):i<2*l.length∧y=Adu (I4 ls l i):=by
 have hlt:=(List.getElem?_eq_some_iff.1 h).1
 rw [Wk]at hlt
 rw [mE hlt]at h
 exact ⟨hlt,(Option.some.inj h).symm⟩
theorem To {ls:List Lnk} {l:List Snd} {k:Nat}:I4 ls l (2*k)=((l.getD k dS).2.1,(Cd ls (l.getD k dS)).1,-(l.getD k dS).2.2):=by
 unfold I4
 rw [if_pos (by omega),show 2*k / 2=k by omega]
theorem Xk {ls:List Lnk} {l:List Snd} {k:Nat}:I4 ls l (2*k+1)=((l.getD k dS).2.1,(Cd ls (l.getD k dS)).2.1,(l.getD k dS).2.2):=by
 unfold I4
 rw [if_neg (by omega),show (2*k+1) / 2=k by omega]
abbrev mF (hn:Int) (ls:List Lnk) (l:List Snd):PV:=.func (.func 80) [] [.vptr [AB l] 0,.vptr [I hn,Az ls] 0]
noncomputable def FY:(Int)×(List Lnk)×(List Snd)→List PV:=fun (hn,ls,l) => [.agg [I hn,Az ls],AB l]
noncomputable def OF:(Int)×(List Lnk)×(List Snd)→PV:=fun (hn,ls,l)=>mF hn ls l
def OG:(Int)×(List Lnk)×(List Snd)→Prop:=fun (hn,ls,l)=>True
noncomputable def e_changes:Nat×Ent:=(76,.v (Ah FY OF OG))
theorem aZ:∀i j,FY i=FY j→i=j:=by
 rintro ⟨hn₁,ls₁,l₁⟩ ⟨hn₂,ls₂,l₂⟩ h
 simp only[FY,List.cons.injEq,and_true,PV.lits.injEq,PV.int.injEq,PV.agg.injEq,true_and,AR,AG]at h
 simp [h] <;> omega
theorem KM (hn:Int) (ls:List Lnk) (l:List Snd):Ah FY OF OG [.agg [I hn,Az ls],AB l]=some (mF hn ls l):=AA aZ (i:=(hn,ls,l)) trivial
def OH:Prop:=∀(hn:Int) (ls:List Lnk) (l:List Snd) ,VC Try.prog 76 [.agg [I hn,Az ls],AB l] (mF hn ls l)
def OI:Prop:=AM Try.prog e_changes.1 e_changes.2
theorem bB (c:OH):OI:=At fun⟨hn,ls,l⟩ h=>c hn ls l
theorem bC:OH:=by
 intro hn ls l
 refine A5 AP (l := []) (Ao) [] []  Try.func76 rfl (by decide +kernel) (N:=6) rfl (by simp) rfl (by kernel_rfl) fun hs=>?_
 simp only[AI,PV.small,List.length_map,and_true,true_and]at hs
 simp +contextual (maxSteps:=4000000) only[↓bdD,bdP,Nat.reduceLT,Nat.reduceBEq,Ai,Nat.reduceAdd,st0,↓reduceIte,Try.f76]
 simp [DRx,mF,Sf,Dt,Sc,Mi,Ab,Ac,Ft,FQ]
theorem bE:OI:=bB bC
theorem bF {hn:Int} {ls:List Lnk} {l:List Snd} (ok:OKr hn ls l):Qj Try.prog 0 80 [] [.vptr [AB l] 0,.vptr [I hn,Az ls] 0] (ysL ls l):=by
 refine V8 (l := []) Ao [] [] 0 Try.func80 rfl (by decide +kernel) rfl (N:=46) rfl (by simp) (fun y=>by kernel_rfl) fun y H J E st0 hm h0 hstab hy=>?_
 have hlen:=ok.len
 have hyl:=Wk (ls:=ls) (l:=l)
 obtain ⟨ob0,M0⟩:=st0
 simp +contextual (maxSteps:=4000000) only[↓bdD,bdP,Nat.reduceLT,Nat.reduceAdd,↓reduceIte,AJ]
 refine Ax (hm:=hm) [5,8,9,10,11,12,13,14,15,16,17,18,19,20,21,22,23,24,25,26,27,28,29,30,31,32,33,34,35,36,37,38,39,40,41,42,43,44,45] l.length (fun k ρ st'=>ρ 8=I k∧J (2*k) st'∧M0≤st'.next) (.refl _) ?_ ?_
 ·simp +contextual (maxSteps:=4000000) only[↓bdD,bdP,Nat.reduceMul]
  exact h0
 ·rintro k ρ ⟨ob,M⟩ hk ⟨h8,hJ,hMM⟩
  dsimp only at hMM
  by_cases hlt:k<l.length
  ·have hw1:IntKind.i64.wrap ((k:Int)+1)=((k+1:Nat):Int):=by rw[Ag (by omega) (by omega)];omega
   have e1:=ok.link k hlt
   have hb:=ok.bytes k hlt
   have c1:=mE (ls:=ls) (l:=l) (i:=2*k) (by omega)
   have c2:=mE (ls:=ls) (l:=l) (i:=2*k+1) (by omega)
   rw [To]at c1
   rw [Xk]at c2
   unfold Cd at c1 c2
   generalize hx:l.getD k dS=x at *
   have hwn:IntKind.i64.wrap (0-x.2.2) = -x.2.2:=by rw[Ag (by omega) (by omega)];omega
   have h5:=DG e1.1 e1.2
   have h6:=Int.toNat_of_nonneg e1.1
   generalize x.1.toNat=kk at *
   simp +contextual (maxSteps:=4000000) only[↓bdD,bdP,Nat.reduceLT,Nat.reduceBEq,Nat.reduceAdd,Nat.reduceLeDiff,reduceCtorEq,Store.new,Store.set,↓reduceIte,AH,Br,Fd,Nat.mul_one,ty3,By,Aw,AJ,B6,BU,Ms,h8,hlt,hx,h5,←h6,hwn]
   have hJ':∀o o2,J (2*k) ⟨Aa (Aa ob M o) M o2,M+1⟩:=fun o o2=>hstab _ _ _ hJ (by simp) (fun x hx=>(PX (by simp;exact Nat.ne_of_lt hx)).trans (PX (by simp;exact Nat.ne_of_lt hx)))
   refine hy (2*k) _ _ _ c1 (hJ' _ _) (fun st2 h2 hk2=>?_) (fun st2 h2=>?_)
   ·obtain ⟨ob2,M2⟩:=st2
    have hM:=hk2.2 M hMM (by simp) (fun r=>by simp[Aa])
    have hM2:=hk2.1
    dsimp only at hM hM2
    rw [Ok]at hM
    simp +contextual (maxSteps:=4000000) only[↓bdD,bdP,Nat.reduceLT,Nat.reduceBEq,Nat.reduceAdd,Nat.reduceLeDiff,reduceCtorEq,↓reduceIte,Br,IE,Nat.mul_one,ty3,By,Aw,B6,BU,Ms,hM,h8,h5]
    refine hy (2*k+1) _ _ _ c2 h2 (fun st3 h3 hk3=>?_) (fun st3 h3=>?_)
    ·have hM3:=hk3.1
     dsimp only at hM3
     simp +contextual (maxSteps:=4000000) only[↓bdD,bdP,hw1]
     exact ⟨by rw[show 2*(k+1)=2*k+1+1 by omega];exact h3,by omega⟩
    ·simp +contextual (maxSteps:=4000000) only[↓bdD,bdP]
     exact .inr h3
   ·simp +contextual (maxSteps:=4000000) only[↓bdD,bdP,↓reduceIte]
    exact .inr h2
  ·have e:k=l.length:=by omega
   subst e
   simp +contextual (maxSteps:=4000000) only[↓bdD,bdP,Nat.reduceLT,Nat.reduceBEq,reduceCtorEq,↓reduceIte,h8,hyl]
   exact .inl hJ
end Sim
namespace Sim
open Go Go.Proofs
attribute [local congr] Ap Aq Al AC As Ar Av Gq
theorem mG {X:Cfg} {N:Nat} {Q:IExit→IState→Prop} {c:Code} {ks:List Kf} {A:Prop} (T:(Nat→PV)→Store→Prop) (h1:(∀ρ st,T ρ st→run X N Q c ks ⟨ρ,st⟩)→A) (h2:∀ρ st,T ρ st→run X N Q c ks ⟨ρ,st⟩):A:=h1 h2
def HA (d:Dem) (at_ tick:Int):Int:=if at_=d.1∧d.2.2.2.1≤tick then d.2.2.1 else 0
def IF (ls:List Lnk) (s:Snd) (at_ tick:Int):Int:=if s.2.1<tick then (if (Cd ls s).2.1=at_ then s.2.2 else 0)-(if (Cd ls s).1=at_ then s.2.2 else 0)else 0
def IG (ls:List Lnk) (l:List Snd) (at_ tick:Int):Nat→Int
 | 0=>0
 | k+1=>IG ls l at_ tick k+IF ls (l.getD k dS) at_ tick
def B1 (ls:List Lnk) (l:List Snd) (d:Dem) (at_ tick:Int):Int:=HA d at_ tick+IG ls l at_ tick l.length
def hyT (ls:List Lnk) (l:List Snd) (at_ tick:Int):Nat→Int
 | 0=>0
 | i+1=>hyT ls l at_ tick i+if (I4 ls l i).1<tick∧(I4 ls l i).2.1=at_ then (I4 ls l i).2.2 else 0
theorem Xl {ls:List Lnk} {l:List Snd} {at_ tick:Int}:∀k,hyT ls l at_ tick (2*k)=IG ls l at_ tick k
 | 0=>rfl
 | k+1=>by
  show hyT ls l at_ tick (2*k+1+1)=_
  simp only[hyT,Xk,To,IG,IF]
  rw [Xl k]
  by_cases h:(l.getD k dS).2.1<tick
  ·simp only[h,true_and,if_true]
   split <;> split <;> omega
  ·simp only[h,false_and,if_false]
   omega
theorem mH {hn:Int} {ls:List Lnk} {l:List Snd} (ok:OKr hn ls l) {k:Nat} (hk:k<l.length) (at_ tick:Int) : -1073741824≤IF ls (l.getD k dS) at_ tick∧IF ls (l.getD k dS) at_ tick≤1073741824:=by
 have := ok.bytes k hk
 unfold IF
 split
 ·split <;> split <;> omega
 ·omega
theorem Tp {hn:Int} {ls:List Lnk} {l:List Snd} (ok:OKr hn ls l) (at_ tick:Int):∀k,k≤l.length → -(1073741824*(k:Int))≤IG ls l at_ tick k∧IG ls l at_ tick k≤1073741824*(k:Int)
 | 0,_=>by simp[IG]
 | k+1,hk=>by
  have ih:=Tp ok at_ tick k (by omega)
  have := mH ok (show k<l.length by omega) at_ tick
  simp only[IG]
  omega
theorem mI {hn:Int} {ls:List Lnk} {l:List Snd} (ok:OKr hn ls l) (at_ tick:Int):∀i,i≤2*l.length → -(1073741824*(i:Int))≤hyT ls l at_ tick i∧hyT ls l at_ tick i≤1073741824*(i:Int)
 | 0,_=>by simp[hyT]
 | i+1,hi=>by
  have ih:=mI ok at_ tick i (by omega)
  have hb:=ok.bytes (i / 2) (by omega)
  simp only[hyT]
  split
  ·unfold I4
   split <;> dsimp only <;> omega
  ·omega
def Wl (d:Dem):Prop:=0≤d.2.2.1∧d.2.2.1≤1099511627776
theorem Tq {d:Dem} (h:Wl d) (at_ tick:Int):0≤HA d at_ tick∧HA d at_ tick≤1099511627776:=by
 unfold Wl at h
 unfold HA
 split <;> omega
noncomputable def J0:(Int)×(List Lnk)×(List Snd)×(Dem)×(Int)×(Int)→List PV:=fun (hn,ls,l,d,at_,tick) => [.agg [I hn,Az ls],AB l,Cr d,I at_,I tick]
noncomputable def Xm:(Int)×(List Lnk)×(List Snd)×(Dem)×(Int)×(Int)→PV:=fun (hn,ls,l,d,at_,tick)=>I (B1 ls l d at_ tick)
def Xn:(Int)×(List Lnk)×(List Snd)×(Dem)×(Int)×(Int)→Prop:=fun (hn,ls,l,d,at_,tick)=>OKr hn ls l∧Wl d
noncomputable def e_stock:Nat×Ent:=(64,.v (Ah J0 Xm Xn))
theorem xN:∀i j,J0 i=J0 j→i=j:=by
 rintro ⟨hn₁,ls₁,l₁,d₁,at_₁,tick₁⟩ ⟨hn₂,ls₂,l₂,d₂,at_₂,tick₂⟩ h
 simp only[J0,List.cons.injEq,and_true,PV.lits.injEq,PV.int.injEq,PV.agg.injEq,true_and,AR,AG]at h
 simp [Prod.ext_iff,h] <;> omega
theorem J2 (hn:Int) (ls:List Lnk) (l:List Snd) (d:Dem) (at_:Int) (tick:Int):Ah J0 Xm Xn [.agg [I hn,Az ls],AB l,Cr d,I at_,I tick]=@ite (Option (PV)) (OKr hn ls l∧Wl d) (Classical.propDecidable _) (some (I (B1 ls l d at_ tick))) none:=BV xN (hn,ls,l,d,at_,tick)
def Xo:Prop:=∀(hn:Int) (ls:List Lnk) (l:List Snd) (d:Dem) (at_:Int) (tick:Int) (h:OKr hn ls l∧Wl d) ,VC Try.prog 64 [.agg [I hn,Az ls],AB l,Cr d,I at_,I tick] (I (B1 ls l d at_ tick))
def Xp:Prop:=AM Try.prog e_stock.1 e_stock.2
theorem xO (c:Xo):Xp:=At fun⟨hn,ls,l,d,at_,tick⟩ h=>c hn ls l d at_ tick h
theorem xP:Xo:=by
 rintro hn ls l d at_ tick ⟨ok,hd⟩
 refine VP AP (l := [e_changes]) ((Ae bE Ao)) [] [] 0 1 Try.func64 rfl (by decide +kernel) (N:=45) rfl (by simp) rfl (by kernel_rfl) fun hs=>?_
 simp only[AI,PV.small,List.length_map,and_true,true_and]at hs
 have h0:=Tq hd at_ tick
 have hlen:=ok.len
 generalize hr:B1 ls l d at_ tick=r
 have hr2:HA d at_ tick+hyT ls l at_ tick (2*l.length)=r:=by rw[←hr,Xl];rfl
 have hle:=mI ok at_ tick
 obtain ⟨c,hc⟩:∃c,c=HA d at_ tick:=⟨_,rfl⟩
 have tail:∀(ρ:Nat→PV) (st:Store),True:=fun _ _=>trivial
 have hcases:(at_=d.1∧d.2.2.2.1≤tick∧c=d.2.2.1)∨(at_=d.1∧¬d.2.2.2.1≤tick∧c=0)∨(¬at_=d.1∧c=0):=by
  unfold HA at hc
  by_cases h1:at_=d.1
  ·by_cases h2:d.2.2.2.1≤tick
   ·rw [if_pos ⟨h1,h2⟩]at hc;exact .inl ⟨h1,h2,hc⟩
   ·rw [if_neg (fun h=>h2 h.2)]at hc;exact .inr (.inl ⟨h1,h2,hc⟩)
  ·rw [if_neg (fun h=>h1 h.1)]at hc;exact .inr (.inr ⟨h1,hc⟩)
 rw [←hc]at hr2 h0
 refine mG (X:=?X) (N:=?N) (Q:=?Q) (c:=?c) (ks:=?ks) (fun ρ st=>ρ 8=.vptr [I at_] 0∧ρ 9=.vptr [I tick] 0∧ρ 11=.ptr 0 0 0 0∧ρ 28=mF hn ls l∧st.obj 0=some (.arr 0 1 [I c])∧st.next=1) ?h1 ?h2
 case h1 =>
  intro tail
  rcases hcases with ⟨g1,g2,g3⟩ | ⟨g1,g2,g3⟩ | ⟨g1,g3⟩
  ·simp +contextual (maxSteps:=4000000) only[↓bdD,bdP,Nat.reduceLT,Nat.reduceBEq,Nat.reduceAdd,Nat.reduceLeDiff,Store.new,Store.set,↓reduceIte,e_changes,KM,Ac,Ab,Try.f64,ty3,Aw,AJ,AX,g1,g2]
   refine tail _ _ ?_
   simp +contextual (maxSteps:=4000000) only[↓bdD,bdP,Nat.reduceBEq,g1,g3]
  ·simp +contextual (maxSteps:=4000000) only[↓bdD,bdP,Nat.reduceLT,Nat.reduceBEq,Nat.reduceAdd,Nat.reduceLeDiff,Store.new,Store.set,↓reduceIte,e_changes,KM,Ac,Ab,Try.f64,ty3,Aw,AJ,AX,g1,g2]
   refine tail _ _ ?_
   simp +contextual (maxSteps:=4000000) only[↓bdD,bdP,Nat.reduceBEq,g1,g3]
  ·simp +contextual (maxSteps:=4000000) only[↓bdD,bdP,Nat.reduceLT,Nat.reduceBEq,Nat.reduceAdd,Nat.reduceLeDiff,Store.new,Store.set,↓reduceIte,e_changes,KM,Ac,Ab,Try.f64,ty3,Aw,AJ,AX,g1]
   refine tail _ _ ?_
   simp +contextual (maxSteps:=4000000) only[↓bdD,bdP,Nat.reduceBEq,g3]
 case h2 =>
  rintro ρ ⟨ob,M⟩ ⟨h8,h9,h11,h28,ho,hM⟩
  dsimp only at ho hM
  subst hM
  refine V9 (ys:=ysL ls l) (f:=80) (first := []) (captured := [.vptr [AB l] 0,.vptr [I hn,Az ls] 0]) rfl rfl (AV rfl) ?_ (bF ok) rfl ?_ (by kernel_rfl) (by kernel_rfl)
   (fun i st'=>st'.obj 0=some (.arr 0 1 [I (c+hyT ls l at_ tick i)])∧0<st'.next) (fun e st'=>False) ?_ ?_ ?_ ?_ ?_ ?_ ?_
  ·simp +contextual (maxSteps:=4000000) only[↓bdD,bdP,h28]
  ·intro y hy
   obtain ⟨x,_,rfl⟩:=List.mem_map.1 hy
   rfl
  ·intro i
   exact Stays.obj (fun _=>by simp)
  ·intro e
   exact Stays.const
  ·exact ⟨by simp[hyT,ho],by simp⟩
  ·rintro i y ⟨ob2,M2⟩ id lr hy hid hlp hbase ⟨a0,a1⟩
   obtain ⟨hi,rfl⟩:=Adv hy
   dsimp only at hid hlp hbase a0 a1
   have hstep:hyT ls l at_ tick (i+1)=hyT ls l at_ tick i+if (I4 ls l i).1<tick∧(I4 ls l i).2.1=at_ then (I4 ls l i).2.2 else 0:=rfl
   have hl1:=hle i (by omega)
   have hl2:=hle (i+1) (by omega)
   rw [hstep]at hl2 ⊢
   generalize I4 ls l i=x at *
   have d0:¬id=0:=by omega
   have d3:¬id=M2:=by omega
   have e0:¬0=M2:=by omega
   have f0:¬0=id:=by omega
   have f3:¬M2=id:=by omega
   have hkeep2:∀(o1 o2 o3 o4:IObj),Keep 1 ⟨ob2,M2⟩ ⟨Aa (Aa (Aa (Aa ob2 M2 (some o1)) M2 (some o2)) id (some o3)) 0 (some o4),M2+1⟩:=fun o1 o2 o3 o4=>⟨by simp,fun x h1 h2 h3=>by
    dsimp only at h2 h3 ⊢
    have n1:x≠M2:=by omega
    have n2:x≠id:=fun e=>h3 lr (by rw[e];exact hlp)
    have n3:x≠0:=by omega
    simp [Aa,n1,n2,n3]⟩
   have hkeep:∀(o1 o2 o3:IObj),Keep 1 ⟨ob2,M2⟩ ⟨Aa (Aa (Aa ob2 M2 (some o1)) M2 (some o2)) id (some o3),M2+1⟩:=fun o1 o2 o3=>⟨by simp,fun x h1 h2 h3=>by
    dsimp only at h2 h3 ⊢
    have n1:x≠M2:=by omega
    have n2:x≠id:=fun e=>h3 lr (by rw[e];exact hlp)
    simp [Aa,n1,n2]⟩
   by_cases c1:x.1<tick
   ·by_cases c2:x.2.1=at_
    ·rw [if_pos ⟨c1,c2⟩]at hl2 ⊢
     have hw:IntKind.i64.wrap (c+hyT ls l at_ tick i+x.2.2)=c+(hyT ls l at_ tick i+x.2.2):=by rw[Ag (by omega) (by omega)];omega
     simp +contextual (maxSteps:=4000000) only[↓bdD,bdP,Nat.reduceLT,Nat.reduceBEq,Nat.reduceAdd,Nat.reduceLeDiff,Int.reduceLT,Int.reduceLE,Int.reduceToNat,Store.new,Store.set,↓reduceIte,Nat.mul_one,ty3,Ms,hlp,h8,h9,h11,a0,d0,d3,e0,f0,f3,Fa,Co,c1,c2,hw]
     exact fun rb=>⟨by omega,by omega,hkeep2 _ _ _ _⟩
    ·rw [if_neg (fun h=>c2 h.2),Int.add_zero]at hl2 ⊢
     simp +contextual (maxSteps:=4000000) only[↓bdD,bdP,Nat.reduceLT,Nat.reduceBEq,Nat.reduceAdd,Int.reduceLT,Int.reduceToNat,Store.new,Store.set,↓reduceIte,Nat.mul_one,ty3,Ms,hlp,h8,h9,a0,d3,e0,f0,f3,Fa,Co,c1,c2]
     exact fun rb=>⟨by omega,by omega,hkeep _ _ _⟩
   ·rw [if_neg (fun h=>c1 h.1),Int.add_zero]at hl2 ⊢
    simp +contextual (maxSteps:=4000000) only[↓bdD,bdP,Nat.reduceLT,Nat.reduceBEq,Nat.reduceAdd,Store.new,Store.set,↓reduceIte,ty3,Ms,hlp,h9,a0,d3,e0,f0,Fa,Co,c1]
    exact fun rb=>⟨by omega,by omega,hkeep _ _ _⟩
  ·rintro ⟨ob2,M2⟩ ⟨a0,a1⟩
   dsimp only at a0 a1
   rw [Wk,hr2]at a0
   simp +contextual (maxSteps:=4000000) only[↓bdD,bdP,Nat.reduceLT,Ai,Nat.reduceAdd,↓reduceIte,ty3,h11,a0]
  ·rintro i ⟨ob2,M2⟩ h
   exact h.elim
  ·rintro ⟨ob2,M2⟩ h
   exact h.elim
theorem Xq:Xp:=xO xP
end Sim
