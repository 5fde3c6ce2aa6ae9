/- What functions of this seat compute, by values: contracts (lemmas of the statement's proof, under the conditions that each names). -/
import Derived.Test.YtppljhpecoeakaaQN4
set_option maxRecDepth 10000
set_option maxHeartbeats 2000000
set_option linter.unusedVariables false
set_option linter.unusedSimpArgs false
namespace Sim
open Go Go.Proofs
attribute [local congr] An Ao Al AC Aq Ap Av
abbrev Dem:=Int×Int×Int×Int×Int
abbrev B3 (d:Dem):PV:=.agg [I d.1,I d.2.1,I d.2.2.1,I d.2.2.2.1,I d.2.2.2.2]
def DU (d:Dem):Prop:=1≤d.2.2.1∧d.2.2.1≤1099511627776∧0≤d.2.2.2.1∧d.2.2.2.1≤d.2.2.2.2∧d.2.2.2.2≤1000000
instance {d:Dem}:Decidable (DU d):=inferInstanceAs (Decidable (_∧_))
def Dc (hn:Int) (d:Dem):Bool:=hOK hn d.1&&hOK hn d.2.1&&decide (DU d)
noncomputable def Hv:(Int)×(List Lnk)×(Int)→List PV:=fun (hn,ls,h) => [I h,.vptr [I hn,Az ls] 0]
noncomputable def S7:(Int)×(List Lnk)×(Int)→PV:=fun (hn,ls,h)=>B (hOK hn h)
def S8:(Int)×(List Lnk)×(Int)→Prop:=fun (hn,ls,h)=>True
noncomputable def e_dhouse:Nat×Ent:=(75,.v (Ah Hv S7 S8))
theorem kY:∀i j,Hv i=Hv j→i=j:=by
 rintro ⟨hn₁,ls₁,h₁⟩ ⟨hn₂,ls₂,h₂⟩ h
 simp only[Hv,List.cons.injEq,and_true,PV.lits.injEq,PV.int.injEq,PV.vptr.injEq,true_and,AG]at h
 simp [h] <;> omega
theorem Em (hn:Int) (ls:List Lnk) (h:Int):Ah Hv S7 S8 [I h,.vptr [I hn,Az ls] 0]=some (B (hOK hn h)):=Ay kY (i:=(hn,ls,h)) trivial
def S9:Prop:=∀(hn:Int) (ls:List Lnk) (h:Int) ,VC Try.prog 75 [I h,.vptr [I hn,Az ls] 0] (B (hOK hn h))
def Ta:Prop:=AN Try.prog e_dhouse.1 e_dhouse.2
theorem kZ (c:S9):Ta:=At fun⟨hn,ls,h⟩ h=>c hn ls h
theorem lA:S9:=by
 intro hn ls h
 refine A5 AR (l := []) (As) [] []  Try.func75 rfl (by decide +kernel) (N:=12) rfl (by simp) rfl (by kernel_rfl) fun hs=>?_
 simp only[AI,PV.small,List.length_map,and_true,true_and]at hs
 generalize hr:hOK hn h=r
 by_cases h1:0≤h
 ·by_cases h2:h<hn
  ·simp only[hOK,h1,h2,and_self,decide_true]at hr
   subst hr
   simp +contextual (maxSteps:=4000000) only[↓bdD,bdP,Nat.reduceLT,Nat.reduceBEq,Ag,Nat.reduceAdd,st0,↓reduceIte,Try.f75,ty3,Au,h1,h2]
  ·simp only[hOK,h1,h2,and_false,decide_false]at hr
   subst hr
   simp +contextual (maxSteps:=4000000) only[↓bdD,bdP,Nat.reduceLT,Nat.reduceBEq,Ag,Nat.reduceAdd,st0,↓reduceIte,Try.f75,ty3,Au,h1,h2]
 ·simp only[hOK,h1,false_and,decide_false]at hr
  subst hr
  simp +contextual (maxSteps:=4000000) only[↓bdD,bdP,Nat.reduceLT,Nat.reduceBEq,Ag,st0,↓reduceIte,Try.f75,h1]
theorem lB:Ta:=kZ lA
noncomputable def EX:(Int)×(List Lnk)×(Dem)→List PV:=fun (hn,ls,d) => [.agg [I hn,Az ls],B3 d]
noncomputable def ME:(Int)×(List Lnk)×(Dem)→PV:=fun (hn,ls,d)=>B (Dc hn d)
def MF:(Int)×(List Lnk)×(Dem)→Prop:=fun (hn,ls,d)=>True
noncomputable def e_demanded:Nat×Ent:=(63,.v (Ah EX ME MF))
theorem VY:∀i j,EX i=EX j→i=j:=by
 rintro ⟨hn₁,ls₁,d₁⟩ ⟨hn₂,ls₂,d₂⟩ h
 simp only[EX,List.cons.injEq,and_true,PV.lits.injEq,PV.int.injEq,PV.agg.injEq,true_and,AG]at h
 simp [Prod.ext_iff,h] <;> omega
theorem CE (hn:Int) (ls:List Lnk) (d:Dem):Ah EX ME MF [.agg [I hn,Az ls],B3 d]=some (B (Dc hn d)):=Ay VY (i:=(hn,ls,d)) trivial
def MG:Prop:=∀(hn:Int) (ls:List Lnk) (d:Dem) ,VC Try.prog 63 [.agg [I hn,Az ls],B3 d] (B (Dc hn d))
def MH:Prop:=AN Try.prog e_demanded.1 e_demanded.2
theorem VZ (c:MG):MH:=At fun⟨hn,ls,d⟩ h=>c hn ls d
theorem V0:MG:=by
 rintro hn ls ⟨f,t,b,r,u⟩
 refine A5 AR (l := [e_dhouse]) ((Ae lB As)) [] []  Try.func63 rfl (by decide +kernel) (N:=44) rfl (by simp) rfl (by kernel_rfl) fun hs=>?_
 simp only[AI,PV.small,List.length_map,and_true,true_and]at hs
 unfold Dc
 cases g1:hOK hn f
 ·simp +contextual (maxSteps:=4000000) only[↓bdD,bdP,Nat.reduceLT,Nat.reduceBEq,Ag,Nat.reduceAdd,st0,↓reduceIte,e_dhouse,Em,Ab,Try.f63,ty3,AP,g1,Bool.false_and]
 cases g2:hOK hn t
 ·simp +contextual (maxSteps:=4000000) only[↓bdD,bdP,Nat.reduceLT,Nat.reduceBEq,Ag,Nat.reduceAdd,st0,↓reduceIte,e_dhouse,Em,Ab,Try.f63,ty3,AP,g1,g2,Bool.and_false,Bool.false_and]
 have key:∀q:Bool,(hOK hn f&&hOK hn t&&q)=q:=fun q=>by rw[g1,g2];simp
 by_cases h1:1≤b
 case neg=>simp +contextual (maxSteps:=4000000) only[↓bdD,bdP,Nat.reduceLT,Nat.reduceBEq,Ag,Nat.reduceAdd,st0,↓reduceIte,e_dhouse,Em,Ab,Try.f63,ty3,AP,g1,g2,show DU (f,t,b,r,u)=False by simp[DU,h1],h1]
 by_cases h2:b≤1099511627776
 case neg=>simp +contextual (maxSteps:=4000000) only[↓bdD,bdP,Nat.reduceLT,Nat.reduceBEq,Ag,Nat.reduceAdd,st0,↓reduceIte,e_dhouse,Em,Ab,Try.f63,ty3,AP,g1,g2,show DU (f,t,b,r,u)=False by simp[DU,h2],h1,h2]
 by_cases h3:0≤r
 case neg=>simp +contextual (maxSteps:=4000000) only[↓bdD,bdP,Nat.reduceLT,Nat.reduceBEq,Ag,Nat.reduceAdd,st0,↓reduceIte,e_dhouse,Em,Ab,Try.f63,ty3,AP,g1,g2,show DU (f,t,b,r,u)=False by simp[DU,h3],h1,h2,h3]
 by_cases h4:r≤u
 case neg=>simp +contextual (maxSteps:=4000000) only[↓bdD,bdP,Nat.reduceLT,Nat.reduceBEq,Ag,Nat.reduceAdd,st0,↓reduceIte,e_dhouse,Em,Ab,Try.f63,ty3,AP,g1,g2,show DU (f,t,b,r,u)=False by simp[DU,h4],h1,h2,h3,h4]
 by_cases h5:u≤1000000
 case neg=>simp +contextual (maxSteps:=4000000) only[↓bdD,bdP,Nat.reduceLT,Nat.reduceBEq,Ag,Nat.reduceAdd,st0,↓reduceIte,e_dhouse,Em,Ab,Try.f63,ty3,AP,g1,g2,show DU (f,t,b,r,u)=False by simp[DU,h5],h1,h2,h3,h4,h5]
 simp +contextual (maxSteps:=4000000) only[↓bdD,bdP,Nat.reduceLT,Nat.reduceBEq,Ag,Nat.reduceAdd,st0,↓reduceIte,e_dhouse,Em,Ab,Try.f63,ty3,AP,g1,g2,show DU (f,t,b,r,u)=True by simp[DU,h1,h2,h3,h4,h5],h1,h2,h3,h4,h5]
theorem MI:MH:=VZ V0
noncomputable def FS:(Int)×(List Lnk)×(Dem)→List PV:=fun (hn,ls,d) => [.agg [I hn,Az ls],B3 d]
noncomputable def Oo:(Int)×(List Lnk)×(Dem)→PV:=fun (hn,ls,d)=>B (Dc hn d)
def Oq:(Int)×(List Lnk)×(Dem)→Prop:=fun (hn,ls,d)=>True
noncomputable def e_rdemand:Nat×Ent:=(57,.v (Ah FS Oo Oq))
theorem Z4:∀i j,FS i=FS j→i=j:=by
 rintro ⟨hn₁,ls₁,d₁⟩ ⟨hn₂,ls₂,d₂⟩ h
 simp only[FS,List.cons.injEq,and_true,PV.lits.injEq,PV.int.injEq,PV.agg.injEq,true_and,AG]at h
 simp [Prod.ext_iff,h] <;> omega
theorem KE (hn:Int) (ls:List Lnk) (d:Dem):Ah FS Oo Oq [.agg [I hn,Az ls],B3 d]=some (B (Dc hn d)):=Ay Z4 (i:=(hn,ls,d)) trivial
def Ot:Prop:=∀(hn:Int) (ls:List Lnk) (d:Dem) ,VC Try.prog 57 [.agg [I hn,Az ls],B3 d] (B (Dc hn d))
def Ou:Prop:=AN Try.prog e_rdemand.1 e_rdemand.2
theorem Z5 (c:Ot):Ou:=At fun⟨hn,ls,d⟩ h=>c hn ls d
theorem Z6:Ot:=by
 rintro hn ls ⟨f,t,b,r,u⟩
 refine A5 AR (l := [e_rhouse]) ((Ae SP As)) [] []  Try.func57 rfl (by decide +kernel) (N:=46) rfl (by simp) rfl (by kernel_rfl) fun hs=>?_
 simp only[AI,PV.small,List.length_map,and_true,true_and]at hs
 unfold Dc
 cases g1:hOK hn f
 ·simp +contextual (maxSteps:=4000000) only[↓bdD,bdP,Nat.reduceLT,Nat.reduceBEq,Ag,Nat.reduceAdd,st0,↓reduceIte,e_rhouse,CJ,Ab,Try.f57,ty3,Au,AP,g1,Bool.false_and]
 cases g2:hOK hn t
 ·simp +contextual (maxSteps:=4000000) only[↓bdD,bdP,Nat.reduceLT,Nat.reduceBEq,Ag,Nat.reduceAdd,st0,↓reduceIte,e_rhouse,CJ,Ab,Try.f57,ty3,Au,AP,g1,g2,Bool.and_false,Bool.false_and]
 by_cases h1:1≤b
 case neg=>simp +contextual (maxSteps:=4000000) only[↓bdD,bdP,Nat.reduceLT,Nat.reduceBEq,Ag,Nat.reduceAdd,st0,↓reduceIte,e_rhouse,CJ,Ab,Try.f57,ty3,Au,AP,g1,g2,show DU (f,t,b,r,u)=False by simp[DU,h1],h1]
 by_cases h2:b≤1099511627776
 case neg=>simp +contextual (maxSteps:=4000000) only[↓bdD,bdP,Nat.reduceLT,Nat.reduceBEq,Ag,Nat.reduceAdd,st0,↓reduceIte,e_rhouse,CJ,Ab,Try.f57,ty3,Au,AP,g1,g2,show DU (f,t,b,r,u)=False by simp[DU,h2],h1,h2]
 by_cases h3:0≤r
 case neg=>simp +contextual (maxSteps:=4000000) only[↓bdD,bdP,Nat.reduceLT,Nat.reduceBEq,Ag,Nat.reduceAdd,st0,↓reduceIte,e_rhouse,CJ,Ab,Try.f57,ty3,Au,AP,g1,g2,show DU (f,t,b,r,u)=False by simp[DU,h3],h1,h2,h3]
 by_cases h4:r≤u
 case neg=>simp +contextual (maxSteps:=4000000) only[↓bdD,bdP,Nat.reduceLT,Nat.reduceBEq,Ag,Nat.reduceAdd,st0,↓reduceIte,e_rhouse,CJ,Ab,Try.f57,ty3,Au,AP,g1,g2,show DU (f,t,b,r,u)=False by simp[DU,h4],h1,h2,h3,h4]
 by_cases h5:u≤1000000
 case neg=>simp +contextual (maxSteps:=4000000) only[↓bdD,bdP,Nat.reduceLT,Nat.reduceBEq,Ag,Nat.reduceAdd,st0,↓reduceIte,e_rhouse,CJ,Ab,Try.f57,ty3,Au,AP,g1,g2,show DU (f,t,b,r,u)=False by simp[DU,h5],h1,h2,h3,h4,h5]
 simp +contextual (maxSteps:=4000000) only[↓bdD,bdP,Nat.reduceLT,Nat.reduceBEq,Ag,Nat.reduceAdd,st0,↓reduceIte,e_rhouse,CJ,Ab,Try.f57,ty3,Au,AP,g1,g2,show DU (f,t,b,r,u)=True by simp[DU,h1,h2,h3,h4,h5],h1,h2,h3,h4,h5]
theorem Z7:Ou:=Z5 Z6
end Sim
namespace Sim
open Go Go.Proofs
attribute [local congr] An Ao Al AC Aq Ap Av Gl
def B8 (ls:List Lnk) (s:Snd):Lnk:=ls.getD s.1.toNat dL
def IW (ls:List Lnk) (l:List Snd) (i:Nat):Int×Int×Int :=
 if i % 2=0 then ((l.getD (i / 2) dS).2.1,(B8 ls (l.getD (i / 2) dS)).1,-(l.getD (i / 2) dS).2.2)else ((l.getD (i / 2) dS).2.1,(B8 ls (l.getD (i / 2) dS)).2.1,(l.getD (i / 2) dS).2.2)
abbrev Acg (x:Int×Int×Int):List PV := [I x.1,.agg [I x.2.1,I x.2.2]]
def ysL (ls:List Lnk) (l:List Snd):List (List PV):=(List.range (2*l.length)).map fun i=>Acg (IW ls l i)
theorem lC {ls:List Lnk} {l:List Snd} {i:Nat} (h:i<2*l.length):(ysL ls l)[i]?=some (Acg (IW ls l i)):=by
 simp [ysL,h]
theorem V1 {ls:List Lnk} {l:List Snd}:(ysL ls l).length=2*l.length:=by simp[ysL]
theorem Ach {ls:List Lnk} {l:List Snd} {i:Nat} {y:List PV} (h:(ysL ls l)[i]?=some y):i<2*l.length∧y=Acg (IW ls l i):=by
 have hlt:=(List.getElem?_eq_some_iff.1 h).1
 rw [V1]at hlt
 rw [lC hlt]at h
 exact ⟨hlt,(Option.some.inj h).symm⟩
theorem Tb {ls:List Lnk} {l:List Snd} {k:Nat}:IW ls l (2*k)=((l.getD k dS).2.1,(B8 ls (l.getD k dS)).1,-(l.getD k dS).2.2):=by
 unfold IW
 rw [if_pos (by omega),show 2*k / 2=k by omega]
theorem W1 {ls:List Lnk} {l:List Snd} {k:Nat}:IW ls l (2*k+1)=((l.getD k dS).2.1,(B8 ls (l.getD k dS)).2.1,(l.getD k dS).2.2):=by
 unfold IW
 rw [if_neg (by omega),show (2*k+1) / 2=k by omega]
abbrev lE (hn:Int) (ls:List Lnk) (l:List Snd):PV:=.func (.func 80) [] [.vptr [AB l] 0,.vptr [I hn,Az ls] 0]
noncomputable def FT:(Int)×(List Lnk)×(List Snd)→List PV:=fun (hn,ls,l) => [.agg [I hn,Az ls],AB l]
noncomputable def Ov:(Int)×(List Lnk)×(List Snd)→PV:=fun (hn,ls,l)=>lE hn ls l
def Ow:(Int)×(List Lnk)×(List Snd)→Prop:=fun (hn,ls,l)=>True
noncomputable def e_changes:Nat×Ent:=(76,.v (Ah FT Ov Ow))
theorem Z8:∀i j,FT i=FT j→i=j:=by
 rintro ⟨hn₁,ls₁,l₁⟩ ⟨hn₂,ls₂,l₂⟩ h
 simp only[FT,List.cons.injEq,and_true,PV.lits.injEq,PV.int.injEq,PV.agg.injEq,true_and,AU,AG]at h
 simp [h] <;> omega
theorem KF (hn:Int) (ls:List Lnk) (l:List Snd):Ah FT Ov Ow [.agg [I hn,Az ls],AB l]=some (lE hn ls l):=Ay Z8 (i:=(hn,ls,l)) trivial
def Ox:Prop:=∀(hn:Int) (ls:List Lnk) (l:List Snd) ,VC Try.prog 76 [.agg [I hn,Az ls],AB l] (lE hn ls l)
def Oy:Prop:=AN Try.prog e_changes.1 e_changes.2
theorem Z9 (c:Ox):Oy:=At fun⟨hn,ls,l⟩ h=>c hn ls l
theorem aA:Ox:=by
 intro hn ls l
 refine A5 AR (l := []) (As) [] []  Try.func76 rfl (by decide +kernel) (N:=6) rfl (by simp) rfl (by kernel_rfl) fun hs=>?_
 simp only[AI,PV.small,List.length_map,and_true,true_and]at hs
 simp +contextual (maxSteps:=4000000) only[↓bdD,bdP,Nat.reduceLT,Nat.reduceBEq,Ag,Nat.reduceAdd,st0,↓reduceIte,Try.f76]
 simp [DRx,lE,RY,Du,RT,Md,Ab,Ac,Fp,FK]
theorem aB:Oy:=Z9 aA
theorem aC {hn:Int} {ls:List Lnk} {l:List Snd} (ok:OKr hn ls l):P9 Try.prog 0 80 [] [.vptr [AB l] 0,.vptr [I hn,Az ls] 0] (ysL ls l):=by
 refine VO (l := []) As [] [] 0 Try.func80 rfl (by decide +kernel) rfl (N:=46) rfl (by simp) (fun y=>by kernel_rfl) fun y H J E st0 hm h0 hstab hy=>?_
 have hlen:=ok.len
 have hyl:=V1 (ls:=ls) (l:=l)
 obtain ⟨ob0,M0⟩:=st0
 simp +contextual (maxSteps:=4000000) only[↓bdD,bdP,Nat.reduceLT,Nat.reduceAdd,↓reduceIte,AF]
 refine AA (hm:=hm) [5,8,9,10,11,12,13,14,15,16,17,18,19,20,21,22,23,24,25,26,27,28,29,30,31,32,33,34,35,36,37,38,39,40,41,42,43,44,45] l.length (fun k ρ st'=>ρ 8=I k∧J (2*k) st'∧M0≤st'.next) (.refl _) ?_ ?_
 ·simp +contextual (maxSteps:=4000000) only[↓bdD,bdP,Nat.reduceMul]
  exact h0
 ·rintro k ρ ⟨ob,M⟩ hk ⟨h8,hJ,hMM⟩
  dsimp only at hMM
  by_cases hlt:k<l.length
  ·have hw1:IntKind.i64.wrap ((k:Int)+1)=((k+1:Nat):Int):=by rw[Aj (by omega) (by omega)];omega
   have e1:=ok.link k hlt
   have hb:=ok.bytes k hlt
   have c1:=lC (ls:=ls) (l:=l) (i:=2*k) (by omega)
   have c2:=lC (ls:=ls) (l:=l) (i:=2*k+1) (by omega)
   rw [Tb]at c1
   rw [W1]at c2
   unfold B8 at c1 c2
   generalize hx:l.getD k dS=x at *
   have hwn:IntKind.i64.wrap (0-x.2.2) = -x.2.2:=by rw[Aj (by omega) (by omega)];omega
   have h5:=DH e1.1 e1.2
   have h6:=Int.toNat_of_nonneg e1.1
   generalize x.1.toNat=kk at *
   simp +contextual (maxSteps:=4000000) only[↓bdD,bdP,Nat.reduceLT,Nat.reduceBEq,Nat.reduceAdd,Nat.reduceLeDiff,reduceCtorEq,Store.new,Store.set,↓reduceIte,AJ,Bs,EV,Nat.mul_one,ty3,BE,Au,AF,Ck,BZ,Mn,h8,hlt,hx,h5,←h6,hwn]
   have hJ':∀o o2,J (2*k) ⟨Aa (Aa ob M o) M o2,M+1⟩:=fun o o2=>hstab _ _ _ hJ (by simp) (fun x hx=>(PG (by simp;exact Nat.ne_of_lt hx)).trans (PG (by simp;exact Nat.ne_of_lt hx)))
   refine hy (2*k) _ _ _ c1 (hJ' _ _) (fun st2 h2 hk2=>?_) (fun st2 h2=>?_)
   ·obtain ⟨ob2,M2⟩:=st2
    have hM:=hk2.2 M hMM (by simp) (fun r=>by simp[Aa])
    have hM2:=hk2.1
    dsimp only at hM hM2
    rw [Ob]at hM
    simp +contextual (maxSteps:=4000000) only[↓bdD,bdP,Nat.reduceLT,Nat.reduceBEq,Nat.reduceAdd,Nat.reduceLeDiff,reduceCtorEq,↓reduceIte,Bs,IA,Nat.mul_one,ty3,BE,Au,Ck,BZ,Mn,hM,h8,h5]
    refine hy (2*k+1) _ _ _ c2 h2 (fun st3 h3 hk3=>?_) (fun st3 h3=>?_)
    ·have hM3:=hk3.1
     dsimp only at hM3
     simp +contextual (maxSteps:=4000000) only[↓bdD,bdP,hw1]
     exact ⟨by rw[show 2*(k+1)=2*k+1+1 by omega];exact h3,by omega⟩
    ·simp +contextual (maxSteps:=4000000) only[↓bdD,bdP]
     exact .inr h3
   ·simp +contextual (maxSteps:=4000000) only[↓bdD,bdP,↓reduceIte]
    exact .inr h2
  ·have e:k=l.length:=by omega
   subst e
   simp +contextual (maxSteps:=4000000) only[↓bdD,bdP,Nat.reduceLT,Nat.reduceBEq,reduceCtorEq,↓reduceIte,h8,hyl]
   exact .inl hJ
end Sim
namespace Sim
open Go Go.Proofs
attribute [local congr] An Ao Al AC Aq Ap Av Gl
theorem lF {X:Cfg} {N:Nat} {Q:IExit→IState→Prop} {c:Code} {ks:List Kf} {A:Prop} (T:(Nat→PV)→Store→Prop) (h1:(∀ρ st,T ρ st→run X N Q c ks ⟨ρ,st⟩)→A) (h2:∀ρ st,T ρ st→run X N Q c ks ⟨ρ,st⟩):A:=h1 h2
def Hw (d:Dem) (at_ tick:Int):Int:=if at_=d.1∧d.2.2.2.1≤tick then d.2.2.1 else 0
def IB (ls:List Lnk) (s:Snd) (at_ tick:Int):Int:=if s.2.1<tick then (if (B8 ls s).2.1=at_ then s.2.2 else 0)-(if (B8 ls s).1=at_ then s.2.2 else 0)else 0
def IC (ls:List Lnk) (l:List Snd) (at_ tick:Int):Nat→Int
 | 0=>0
 | k+1=>IC ls l at_ tick k+IB ls (l.getD k dS) at_ tick
def BY (ls:List Lnk) (l:List Snd) (d:Dem) (at_ tick:Int):Int:=Hw d at_ tick+IC ls l at_ tick l.length
def hyT (ls:List Lnk) (l:List Snd) (at_ tick:Int):Nat→Int
 | 0=>0
 | i+1=>hyT ls l at_ tick i+if (IW ls l i).1<tick∧(IW ls l i).2.1=at_ then (IW ls l i).2.2 else 0
theorem W3 {ls:List Lnk} {l:List Snd} {at_ tick:Int}:∀k,hyT ls l at_ tick (2*k)=IC ls l at_ tick k
 | 0=>rfl
 | k+1=>by
  show hyT ls l at_ tick (2*k+1+1)=_
  simp only[hyT,W1,Tb,IC,IB]
  rw [W3 k]
  by_cases h:(l.getD k dS).2.1<tick
  ·simp only[h,true_and,if_true]
   split <;> split <;> omega
  ·simp only[h,false_and,if_false]
   omega
theorem lG {hn:Int} {ls:List Lnk} {l:List Snd} (ok:OKr hn ls l) {k:Nat} (hk:k<l.length) (at_ tick:Int) : -1073741824≤IB ls (l.getD k dS) at_ tick∧IB ls (l.getD k dS) at_ tick≤1073741824:=by
 have := ok.bytes k hk
 unfold IB
 split
 ·split <;> split <;> omega
 ·omega
theorem Tc {hn:Int} {ls:List Lnk} {l:List Snd} (ok:OKr hn ls l) (at_ tick:Int):∀k,k≤l.length → -(1073741824*(k:Int))≤IC ls l at_ tick k∧IC ls l at_ tick k≤1073741824*(k:Int)
 | 0,_=>by simp[IC]
 | k+1,hk=>by
  have ih:=Tc ok at_ tick k (by omega)
  have := lG ok (show k<l.length by omega) at_ tick
  simp only[IC]
  omega
theorem lH {hn:Int} {ls:List Lnk} {l:List Snd} (ok:OKr hn ls l) (at_ tick:Int):∀i,i≤2*l.length → -(1073741824*(i:Int))≤hyT ls l at_ tick i∧hyT ls l at_ tick i≤1073741824*(i:Int)
 | 0,_=>by simp[hyT]
 | i+1,hi=>by
  have ih:=lH ok at_ tick i (by omega)
  have hb:=ok.bytes (i / 2) (by omega)
  simp only[hyT]
  split
  ·unfold IW
   split <;> dsimp only <;> omega
  ·omega
def V2 (d:Dem):Prop:=0≤d.2.2.1∧d.2.2.1≤1099511627776
theorem Td {d:Dem} (h:V2 d) (at_ tick:Int):0≤Hw d at_ tick∧Hw d at_ tick≤1099511627776:=by
 unfold V2 at h
 unfold Hw
 split <;> omega
noncomputable def JT:(Int)×(List Lnk)×(List Snd)×(Dem)×(Int)×(Int)→List PV:=fun (hn,ls,l,d,at_,tick) => [.agg [I hn,Az ls],AB l,B3 d,I at_,I tick]
noncomputable def W4:(Int)×(List Lnk)×(List Snd)×(Dem)×(Int)×(Int)→PV:=fun (hn,ls,l,d,at_,tick)=>I (BY ls l d at_ tick)
def W5:(Int)×(List Lnk)×(List Snd)×(Dem)×(Int)×(Int)→Prop:=fun (hn,ls,l,d,at_,tick)=>OKr hn ls l∧V2 d
noncomputable def e_stock:Nat×Ent:=(64,.v (Ah JT W4 W5))
theorem wA:∀i j,JT i=JT j→i=j:=by
 rintro ⟨hn₁,ls₁,l₁,d₁,at_₁,tick₁⟩ ⟨hn₂,ls₂,l₂,d₂,at_₂,tick₂⟩ h
 simp only[JT,List.cons.injEq,and_true,PV.lits.injEq,PV.int.injEq,PV.agg.injEq,true_and,AU,AG]at h
 simp [Prod.ext_iff,h] <;> omega
theorem JU (hn:Int) (ls:List Lnk) (l:List Snd) (d:Dem) (at_:Int) (tick:Int):Ah JT W4 W5 [.agg [I hn,Az ls],AB l,B3 d,I at_,I tick]=@ite (Option (PV)) (OKr hn ls l∧V2 d) (Classical.propDecidable _) (some (I (BY ls l d at_ tick))) none:=B9 wA (hn,ls,l,d,at_,tick)
def W6:Prop:=∀(hn:Int) (ls:List Lnk) (l:List Snd) (d:Dem) (at_:Int) (tick:Int) (h:OKr hn ls l∧V2 d) ,VC Try.prog 64 [.agg [I hn,Az ls],AB l,B3 d,I at_,I tick] (I (BY ls l d at_ tick))
def W7:Prop:=AN Try.prog e_stock.1 e_stock.2
theorem wB (c:W6):W7:=At fun⟨hn,ls,l,d,at_,tick⟩ h=>c hn ls l d at_ tick h
theorem wC:W6:=by
 rintro hn ls l d at_ tick ⟨ok,hd⟩
 refine Vv AR (l := [e_changes]) ((Ae aB As)) [] [] 0 1 Try.func64 rfl (by decide +kernel) (N:=45) rfl (by simp) rfl (by kernel_rfl) fun hs=>?_
 simp only[AI,PV.small,List.length_map,and_true,true_and]at hs
 have h0:=Td hd at_ tick
 have hlen:=ok.len
 generalize hr:BY ls l d at_ tick=r
 have hr2:Hw d at_ tick+hyT ls l at_ tick (2*l.length)=r:=by rw[←hr,W3];rfl
 have hle:=lH ok at_ tick
 obtain ⟨c,hc⟩:∃c,c=Hw d at_ tick:=⟨_,rfl⟩
 have tail:∀(ρ:Nat→PV) (st:Store),True:=fun _ _=>trivial
 have hcases:(at_=d.1∧d.2.2.2.1≤tick∧c=d.2.2.1)∨(at_=d.1∧¬d.2.2.2.1≤tick∧c=0)∨(¬at_=d.1∧c=0):=by
  unfold Hw at hc
  by_cases h1:at_=d.1
  ·by_cases h2:d.2.2.2.1≤tick
   ·rw [if_pos ⟨h1,h2⟩]at hc;exact .inl ⟨h1,h2,hc⟩
   ·rw [if_neg (fun h=>h2 h.2)]at hc;exact .inr (.inl ⟨h1,h2,hc⟩)
  ·rw [if_neg (fun h=>h1 h.1)]at hc;exact .inr (.inr ⟨h1,hc⟩)
 rw [←hc]at hr2 h0
 refine lF (X:=?X) (N:=?N) (Q:=?Q) (c:=?c) (ks:=?ks) (fun ρ st=>ρ 8=.vptr [I at_] 0∧ρ 9=.vptr [I tick] 0∧ρ 11=.ptr 0 0 0 0∧ρ 28=lE hn ls l∧st.obj 0=some (.arr 0 1 [I c])∧st.next=1) ?h1 ?h2
 case h1 =>
  intro tail
  rcases hcases with ⟨g1,g2,g3⟩ | ⟨g1,g2,g3⟩ | ⟨g1,g3⟩
  ·simp +contextual (maxSteps:=4000000) only[↓bdD,bdP,Nat.reduceLT,Nat.reduceBEq,Nat.reduceAdd,Nat.reduceLeDiff,Store.new,Store.set,↓reduceIte,e_changes,KF,Ac,Ab,Try.f64,ty3,Au,AF,AP,g1,g2]
   refine tail _ _ ?_
   simp +contextual (maxSteps:=4000000) only[↓bdD,bdP,Nat.reduceBEq,g1,g3]
  ·simp +contextual (maxSteps:=4000000) only[↓bdD,bdP,Nat.reduceLT,Nat.reduceBEq,Nat.reduceAdd,Nat.reduceLeDiff,Store.new,Store.set,↓reduceIte,e_changes,KF,Ac,Ab,Try.f64,ty3,Au,AF,AP,g1,g2]
   refine tail _ _ ?_
   simp +contextual (maxSteps:=4000000) only[↓bdD,bdP,Nat.reduceBEq,g1,g3]
  ·simp +contextual (maxSteps:=4000000) only[↓bdD,bdP,Nat.reduceLT,Nat.reduceBEq,Nat.reduceAdd,Nat.reduceLeDiff,Store.new,Store.set,↓reduceIte,e_changes,KF,Ac,Ab,Try.f64,ty3,Au,AF,AP,g1]
   refine tail _ _ ?_
   simp +contextual (maxSteps:=4000000) only[↓bdD,bdP,Nat.reduceBEq,g3]
 case h2 =>
  rintro ρ ⟨ob,M⟩ ⟨h8,h9,h11,h28,ho,hM⟩
  dsimp only at ho hM
  subst hM
  refine VP (ys:=ysL ls l) (f:=80) (first := []) (captured := [.vptr [AB l] 0,.vptr [I hn,Az ls] 0]) rfl rfl (AY rfl) ?_ (aC ok) rfl ?_ (by kernel_rfl) (by kernel_rfl)
   (fun i st'=>st'.obj 0=some (.arr 0 1 [I (c+hyT ls l at_ tick i)])∧0<st'.next) (fun e st'=>False) ?_ ?_ ?_ ?_ ?_ ?_ ?_
  ·simp +contextual (maxSteps:=4000000) only[↓bdD,bdP,h28]
  ·intro y hy
   obtain ⟨x,_,rfl⟩:=List.mem_map.1 hy
   rfl
  ·intro i
   exact Stays.obj (fun _=>by simp)
  ·intro e
   exact Stays.const
  ·exact ⟨by simp[hyT,ho],by simp⟩
  ·rintro i y ⟨ob2,M2⟩ id lr hy hid hlp hbase ⟨a0,a1⟩
   obtain ⟨hi,rfl⟩:=Ach hy
   dsimp only at hid hlp hbase a0 a1
   have hstep:hyT ls l at_ tick (i+1)=hyT ls l at_ tick i+if (IW ls l i).1<tick∧(IW ls l i).2.1=at_ then (IW ls l i).2.2 else 0:=rfl
   have hl1:=hle i (by omega)
   have hl2:=hle (i+1) (by omega)
   rw [hstep]at hl2 ⊢
   generalize IW ls l i=x at *
   have d0:¬id=0:=by omega
   have d3:¬id=M2:=by omega
   have e0:¬0=M2:=by omega
   have f0:¬0=id:=by omega
   have f3:¬M2=id:=by omega
   have hkeep2:∀(o1 o2 o3 o4:IObj),Keep 1 ⟨ob2,M2⟩ ⟨Aa (Aa (Aa (Aa ob2 M2 (some o1)) M2 (some o2)) id (some o3)) 0 (some o4),M2+1⟩:=fun o1 o2 o3 o4=>⟨by simp,fun x h1 h2 h3=>by
    dsimp only at h2 h3 ⊢
    have n1:x≠M2:=by omega
    have n2:x≠id:=fun e=>h3 lr (by rw[e];exact hlp)
    have n3:x≠0:=by omega
    simp [Aa,n1,n2,n3]⟩
   have hkeep:∀(o1 o2 o3:IObj),Keep 1 ⟨ob2,M2⟩ ⟨Aa (Aa (Aa ob2 M2 (some o1)) M2 (some o2)) id (some o3),M2+1⟩:=fun o1 o2 o3=>⟨by simp,fun x h1 h2 h3=>by
    dsimp only at h2 h3 ⊢
    have n1:x≠M2:=by omega
    have n2:x≠id:=fun e=>h3 lr (by rw[e];exact hlp)
    simp [Aa,n1,n2]⟩
   by_cases c1:x.1<tick
   ·by_cases c2:x.2.1=at_
    ·rw [if_pos ⟨c1,c2⟩]at hl2 ⊢
     have hw:IntKind.i64.wrap (c+hyT ls l at_ tick i+x.2.2)=c+(hyT ls l at_ tick i+x.2.2):=by rw[Aj (by omega) (by omega)];omega
     simp +contextual (maxSteps:=4000000) only[↓bdD,bdP,Nat.reduceLT,Nat.reduceBEq,Nat.reduceAdd,Nat.reduceLeDiff,Int.reduceLT,Int.reduceLE,Int.reduceToNat,Store.new,Store.set,↓reduceIte,Nat.mul_one,ty3,Mn,hlp,h8,h9,h11,a0,d0,d3,e0,f0,f3,ES,Cj,c1,c2,hw]
     exact fun rb=>⟨by omega,by omega,hkeep2 _ _ _ _⟩
    ·rw [if_neg (fun h=>c2 h.2),Int.add_zero]at hl2 ⊢
     simp +contextual (maxSteps:=4000000) only[↓bdD,bdP,Nat.reduceLT,Nat.reduceBEq,Nat.reduceAdd,Int.reduceLT,Int.reduceToNat,Store.new,Store.set,↓reduceIte,Nat.mul_one,ty3,Mn,hlp,h8,h9,a0,d3,e0,f0,f3,ES,Cj,c1,c2]
     exact fun rb=>⟨by omega,by omega,hkeep _ _ _⟩
   ·rw [if_neg (fun h=>c1 h.1),Int.add_zero]at hl2 ⊢
    simp +contextual (maxSteps:=4000000) only[↓bdD,bdP,Nat.reduceLT,Nat.reduceBEq,Nat.reduceAdd,Store.new,Store.set,↓reduceIte,ty3,Mn,hlp,h9,a0,d3,e0,f0,ES,Cj,c1]
    exact fun rb=>⟨by omega,by omega,hkeep _ _ _⟩
  ·rintro ⟨ob2,M2⟩ ⟨a0,a1⟩
   dsimp only at a0 a1
   rw [V1,hr2]at a0
   simp +contextual (maxSteps:=4000000) only[↓bdD,bdP,Nat.reduceLT,Ag,Nat.reduceAdd,↓reduceIte,ty3,h11,a0]
  ·rintro i ⟨ob2,M2⟩ h
   exact h.elim
  ·rintro ⟨ob2,M2⟩ h
   exact h.elim
theorem W8:W7:=wB wC
end Sim
