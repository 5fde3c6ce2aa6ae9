/- What functions of this seat compute, by values: contracts (lemmas of the statement's proof, under the conditions that each names). -/
import Derived.Test.YtppljhpecoeakaaQV
set_option maxRecDepth 10000
set_option maxHeartbeats 2000000
set_option linter.unusedVariables false
set_option linter.unusedSimpArgs false
namespace Sim
open Go Go.Proofs
attribute [local congr] Aq Ar Al AG At As Az
def hOK (hn:Int) (h:Int):Bool:=decide (0≤h∧h<hn)
def ER (a:Lnk):Nat→Bool
 | 0=>false
 | h+1=>ER a h||decide (DT a h<0∨1073741824<DT a h∨Ew a h<0∨1000000<Ew a h)
def JY (hn:Int) (a:Lnk):Int:=if hOK hn a.1=false∨hOK hn a.2.1=false∨a.1=a.2.1 then 1 else if ER a 24=true then 3 else 0
def ckT (hn:Int) (ls:List Lnk):Nat→Int
 | 0=>0
 | k+1=>if ckT hn ls k≠0 then ckT hn ls k else JY hn (ls.getD k dL)
def Cx (hn:Int) (ls:List Lnk):Int:=if hn<1∨12<hn∨60<ls.length then 2 else ckT hn ls ls.length
theorem ON {hn:Int} {ls:List Lnk} {k:Nat} (h:ckT hn ls k≠0):∀m,ckT hn ls (k+m)=ckT hn ls k
 | 0=>rfl
 | m+1=>by
  have ih:=ON h m
  show (if ckT hn ls (k+m)≠0 then ckT hn ls (k+m)else _)=_
  rw [ih,if_pos h]
theorem LJ {hn:Int} {ls:List Lnk} {k m:Nat} (h:ckT hn ls k≠0) (hk:k≤m):ckT hn ls m=ckT hn ls k:=by
 have := ON h (m-k)
 rwa [show k+(m-k)=m by omega]at this
theorem MI {a:Lnk} {k:Nat} (h:ER a k=true):∀m,ER a (k+m)=true
 | 0=>h
 | m+1=>by show (ER a (k+m)||_)=true;rw[MI h m];rfl
theorem Ts {a:Lnk} {k m:Nat} (h:ER a k=true) (hk:k≤m):ER a m=true:=by
 have := MI h (m-k)
 rwa [show k+(m-k)=m by omega]at this
noncomputable def JZ:(Int)×(List Lnk)×(Int)→List PV:=fun (hn,ls,h) => [I h,.vptr [I hn,Ax ls] 0]
noncomputable def Xu:(Int)×(List Lnk)×(Int)→PV:=fun (hn,ls,h)=>B (hOK hn h)
def Xv:(Int)×(List Lnk)×(Int)→Prop:=fun (hn,ls,h)=>True
noncomputable def e_house:Nat×Ent:=(79,.v (Ah JZ Xu Xv))
theorem yB:∀i j,JZ i=JZ j→i=j:=by
 rintro ⟨hn₁,ls₁,h₁⟩ ⟨hn₂,ls₂,h₂⟩ h
 simp only[JZ,List.cons.injEq,and_true,PV.lits.injEq,PV.int.injEq,PV.vptr.injEq,true_and,AF]at h
 simp [h] <;> omega
theorem LK (hn:Int) (ls:List Lnk) (h:Int):Ah JZ Xu Xv [I h,.vptr [I hn,Ax ls] 0]=some (B (hOK hn h)):=AC yB (i:=(hn,ls,h)) trivial
def Xw:Prop:=∀(hn:Int) (ls:List Lnk) (h:Int) ,VC Try.prog 79 [I h,.vptr [I hn,Ax ls] 0] (B (hOK hn h))
def Xx:Prop:=AL Try.prog e_house.1 e_house.2
theorem yC (c:Xw):Xx:=Ap fun⟨hn,ls,h⟩ h=>c hn ls h
theorem yD:Xw:=by
 intro hn ls h
 refine A3 AP (l := []) (An) [] []  Try.func79 rfl (by decide +kernel) (N:=12) rfl (by simp) rfl (by kernel_rfl) fun hs=>?_
 simp only[AJ,PV.small,List.length_map,and_true,true_and]at hs
 generalize hr:hOK hn h=r
 by_cases h1:0≤h
 ·by_cases h2:h<hn
  ·simp only[hOK,h1,h2,and_self,decide_true]at hr
   subst hr
   simp +contextual (maxSteps:=4000000) only[↓bdD,bdP,Nat.reduceLT,Nat.reduceBEq,Ai,Nat.reduceAdd,st0,↓reduceIte,Try.f79,ty3,Au,h1,h2]
  ·simp only[hOK,h1,h2,and_false,decide_false]at hr
   subst hr
   simp +contextual (maxSteps:=4000000) only[↓bdD,bdP,Nat.reduceLT,Nat.reduceBEq,Ai,Nat.reduceAdd,st0,↓reduceIte,Try.f79,ty3,Au,h1,h2]
 ·simp only[hOK,h1,false_and,decide_false]at hr
  subst hr
  simp +contextual (maxSteps:=4000000) only[↓bdD,bdP,Nat.reduceLT,Nat.reduceBEq,Ai,st0,↓reduceIte,Try.f79,h1]
theorem yE:Xx:=yC yD
noncomputable def HD:(Int)×(List Lnk)×(Int)→List PV:=fun (hn,ls,h) => [.agg [I hn,Ax ls],I h]
noncomputable def Tt:(Int)×(List Lnk)×(Int)→PV:=fun (hn,ls,h)=>B (hOK hn h)
def Tu:(Int)×(List Lnk)×(Int)→Prop:=fun (hn,ls,h)=>True
noncomputable def e_rhouse:Nat×Ent:=(71,.v (Ah HD Tt Tu))
theorem mC:∀i j,HD i=HD j→i=j:=by
 rintro ⟨hn₁,ls₁,h₁⟩ ⟨hn₂,ls₂,h₂⟩ h
 simp only[HD,List.cons.injEq,and_true,PV.lits.injEq,PV.int.injEq,PV.agg.injEq,true_and,AF]at h
 simp [h] <;> omega
theorem CN (hn:Int) (ls:List Lnk) (h:Int):Ah HD Tt Tu [.agg [I hn,Ax ls],I h]=some (B (hOK hn h)):=AC mC (i:=(hn,ls,h)) trivial
def Tv:Prop:=∀(hn:Int) (ls:List Lnk) (h:Int) ,VC Try.prog 71 [.agg [I hn,Ax ls],I h] (B (hOK hn h))
def Tw:Prop:=AL Try.prog e_rhouse.1 e_rhouse.2
theorem mD (c:Tv):Tw:=Ap fun⟨hn,ls,h⟩ h=>c hn ls h
theorem mE:Tv:=by
 intro hn ls h
 refine A3 AP (l := []) (An) [] []  Try.func71 rfl (by decide +kernel) (N:=13) rfl (by simp) rfl (by kernel_rfl) fun hs=>?_
 simp only[AJ,PV.small,List.length_map,and_true,true_and]at hs
 generalize hr:hOK hn h=r
 by_cases h1:0≤h
 ·by_cases h2:h<hn
  ·simp only[hOK,h1,h2,and_self,decide_true]at hr
   subst hr
   simp +contextual (maxSteps:=4000000) only[↓bdD,bdP,Nat.reduceLT,Nat.reduceBEq,Ai,Nat.reduceAdd,st0,↓reduceIte,Try.f71,ty3,Au,h1,h2]
  ·simp only[hOK,h1,h2,and_false,decide_false]at hr
   subst hr
   simp +contextual (maxSteps:=4000000) only[↓bdD,bdP,Nat.reduceLT,Nat.reduceBEq,Ai,Nat.reduceAdd,st0,↓reduceIte,Try.f71,ty3,Au,h1,h2]
 ·simp only[hOK,h1,false_and,decide_false]at hr
  subst hr
  simp +contextual (maxSteps:=4000000) only[↓bdD,bdP,Nat.reduceLT,Nat.reduceBEq,Ai,Nat.reduceAdd,st0,↓reduceIte,Try.f71,h1]
theorem Tx:Tw:=mD mE
noncomputable def J0:(Int)×(List Lnk)→List PV:=fun (hn,ls) => [.agg [I hn,Ax ls]]
noncomputable def Xy:(Int)×(List Lnk)→PV:=fun (hn,ls)=>I (Cx hn ls)
def Xz:(Int)×(List Lnk)→Prop:=fun (hn,ls)=>True
noncomputable def e_check:Nat×Ent:=(67,.v (Ah J0 Xy Xz))
theorem yF:∀i j,J0 i=J0 j→i=j:=by
 rintro ⟨hn₁,ls₁⟩ ⟨hn₂,ls₂⟩ h
 simp only[J0,List.cons.injEq,and_true,PV.lits.injEq,PV.int.injEq,PV.agg.injEq,true_and,AF]at h
 simp [h] <;> omega
theorem QT (hn:Int) (ls:List Lnk):Ah J0 Xy Xz [.agg [I hn,Ax ls]]=some (I (Cx hn ls)):=AC yF (i:=(hn,ls)) trivial
def XA:Prop:=∀(hn:Int) (ls:List Lnk) ,VC Try.prog 67 [.agg [I hn,Ax ls]] (I (Cx hn ls))
def XB:Prop:=AL Try.prog e_check.1 e_check.2
theorem yG (c:XA):XB:=Ap fun⟨hn,ls⟩ h=>c hn ls
theorem yH:XA:=by
 intro hn ls
 refine A3 AP (l := [e_house]) ((Ad yE An)) [] []  Try.func67 rfl (by decide +kernel) (N:=79) rfl (by simp) rfl (by kernel_rfl) fun hs=>?_
 simp only[AJ,PV.small,List.length_map,and_true,true_and]at hs
 generalize hr:Cx hn ls=r
 unfold Cx at hr
 by_cases h1:hn<1
 ·rw [if_pos (.inl h1)]at hr
  subst hr
  simp +contextual (maxSteps:=4000000) only[↓bdD,bdP,Nat.reduceLT,Nat.reduceBEq,Ai,Nat.reduceAdd,st0,↓reduceIte,e_house,Try.f67,ty3,Au,h1]
 by_cases h2:12<hn
 ·rw [if_pos (.inr (.inl h2))]at hr
  subst hr
  simp +contextual (maxSteps:=4000000) only[↓bdD,bdP,Nat.reduceLT,Nat.reduceBEq,Ai,Nat.reduceAdd,st0,↓reduceIte,e_house,Try.f67,ty3,Au,h1,h2]
 by_cases h3:60<ls.length
 ·rw [if_pos (.inr (.inr h3))]at hr
  subst hr
  have h3i:(60:Int)<(ls.length:Int):=by omega
  simp +contextual (maxSteps:=4000000) only[↓bdD,bdP,Nat.reduceLT,Nat.reduceBEq,Ai,Nat.reduceAdd,st0,↓reduceIte,e_house,Try.f67,ty3,By,Au,h1,h2,h3i]
 rw [if_neg (fun h=>h.elim h1 (fun h=>h.elim h2 h3))]at hr
 have h3':¬(60<(ls.length:Int)):=by omega
 have hw:∀i:Nat,i<100→IntKind.i64.wrap ((i:Int)+1)=((i+1:Nat):Int):=fun i g=>by rw[Aj (by omega) (by omega)];omega
 simp +contextual (maxSteps:=4000000) only[↓bdD,bdP,Nat.reduceLT,Nat.reduceBEq,Nat.reduceAdd,st0,↓reduceIte,e_house,Try.f67,ty3,By,Au,h1,h2,h3']
 refine Ay [2,5,6,25,26,27,28,29,30,31,32,33,34,35,36,37,38,39,40,41,42,43,44,45,46,47,48,49,50,51,52,53,54,55,56,57,58,59,60,61,62,63,64,65,66,67,68,69,70,71,72,73,74,75,76,77,78] ls.length (fun k ρ st'=>ρ 25=I k∧ckT hn ls k=0) (.refl _) ?_ ?_
 ·simp +contextual (maxSteps:=4000000) only[↓bdD,bdP,ckT]
 ·rintro k ρ ⟨ob,M⟩ hk ⟨h25,hc⟩
  by_cases hlt:k<ls.length
  ·have hstep:ckT hn ls (k+1)=JY hn (ls.getD k dL):=by simp only[ckT,hc,ne_eq,not_true_eq_false,if_false]
   have hk64:k<100:=by omega
   have hw1:=hw k hk64
   by_cases hb:hOK hn (ls.getD k dL).1=false∨hOK hn (ls.getD k dL).2.1=false∨(ls.getD k dL).1=(ls.getD k dL).2.1
   ·have hb1:JY hn (ls.getD k dL)=1:=by unfold JY;rw[if_pos hb]
    rw [hb1]at hstep
    have hend:=LJ (m:=ls.length) (by rw[hstep];decide) (show k+1≤ls.length by omega)
    rw [hend,hstep]at hr
    subst hr
    cases g1:hOK hn (ls.getD k dL).1
    ·simp +contextual (maxSteps:=4000000) only[↓bdD,bdP,Nat.reduceLT,Nat.reduceBEq,Ai,Nat.reduceAdd,Nat.reduceLeDiff,Store.new,Store.set,↓reduceIte,LK,A8,Ab,Bz,Dn,B6,ty3,By,B5,h25,hlt,g1]
    cases g2:hOK hn (ls.getD k dL).2.1
    ·simp +contextual (maxSteps:=4000000) only[↓bdD,bdP,Nat.reduceLT,Nat.reduceBEq,Ai,Nat.reduceAdd,Nat.reduceLeDiff,Store.new,Store.set,↓reduceIte,LK,A8,Ab,Bz,Dn,FE,B6,ty3,By,B5,h25,hlt,g1,g2]
    have g3:(ls.getD k dL).1=(ls.getD k dL).2.1:=by
     rcases hb with hb | hb | hb
     ·rw [g1]at hb;cases hb
     ·rw [g2]at hb;cases hb
     ·exact hb
    simp +contextual (maxSteps:=4000000) only[↓bdD,bdP,Nat.reduceLT,Nat.reduceBEq,Ai,Nat.reduceAdd,Nat.reduceLeDiff,Store.new,Store.set,↓reduceIte,LK,A8,Ab,Bz,Dn,FE,B6,ty3,By,B5,h25,hlt,g2,g3]
   ·have g1:hOK hn (ls.getD k dL).1=true:=by cases g:hOK hn (ls.getD k dL).1;exact absurd (.inl g) hb;rfl
    have g2:hOK hn (ls.getD k dL).2.1=true:=by cases g:hOK hn (ls.getD k dL).2.1;exact absurd (.inr (.inl g)) hb;rfl
    have g3:¬(ls.getD k dL).1=(ls.getD k dL).2.1:=fun g=>hb (.inr (.inr g))
    have hb3:JY hn (ls.getD k dL)=if ER (ls.getD k dL) 24=true then 3 else 0:=by unfold JY;rw[if_neg hb]
    rw [hb3]at hstep
    generalize hx:ls.getD k dL=x at *
    simp +contextual (maxSteps:=4000000) only[↓bdD,bdP,Nat.reduceLT,Nat.reduceBEq,Nat.reduceAdd,Nat.reduceLeDiff,Store.new,Store.set,↓reduceIte,LK,A8,Ab,Bz,Dn,FE,B6,ty3,By,B5,h25,hlt,g1,g2,g3,hx]
    refine Ay [2,6,48,49,50,51,52,53,54,55,56,57,58,59,60,61,62,63,64,65,66,67,68,69,70,71,72,73,74,75,76,77] 24 (fun h ρ st'=>ρ 48=I h∧ER x h=false∧st'.obj M=some (.arr 0 50 [.agg (lkC x)])) (.refl _) ?_ ?_
    ·simp +contextual (maxSteps:=4000000) only[↓bdD,bdP,ER]
    ·rintro h ρ2 ⟨ob2,M2⟩ hh ⟨h48,hbh,hM⟩
     dsimp only at hM
     by_cases hh24:h<24
     ·have hw2:=hw h (by omega)
      have hi24:(h:Int)<24:=by omega
      have hbs:ER x (h+1)=decide (DT x h<0∨1073741824<DT x h∨Ew x h<0∨1000000<Ew x h):=by simp only[ER,hbh,Bool.false_or]
      by_cases hbad:DT x h<0∨1073741824<DT x h∨Ew x h<0∨1000000<Ew x h
      ·have he:ER x 24=true:=Ts (k:=h+1) (by rw[hbs];exact decide_eq_true hbad) (by omega)
       rw [if_pos he]at hstep
       have hend:=LJ (m:=ls.length) (by rw[hstep];decide) (show k+1≤ls.length by omega)
       rw [hend,hstep]at hr
       subst hr
       by_cases c1:DT x h<0
       ·simp +contextual (maxSteps:=4000000) only[↓bdD,bdP,Nat.reduceLT,Nat.reduceBEq,Ai,Nat.reduceAdd,↓reduceIte,CI,Nat.mul_one,ty3,Iw,B5,h48,hM,hh24,hi24,c1]
       by_cases c2:1073741824<DT x h
       ·simp +contextual (maxSteps:=4000000) only[↓bdD,bdP,Nat.reduceLT,Nat.reduceBEq,Ai,Nat.reduceAdd,↓reduceIte,CI,Nat.mul_one,ty3,Iw,B5,h48,hM,hh24,hi24,c1,c2]
       by_cases c3:Ew x h<0
       ·simp +contextual (maxSteps:=4000000) only[↓bdD,bdP,Nat.reduceLT,Nat.reduceBEq,Ai,Nat.reduceAdd,↓reduceIte,CI,Eo,Nat.mul_one,ty3,Iw,B5,h48,hM,hh24,hi24,c1,c2,c3]
       have c4:1000000<Ew x h:=by omega
       simp +contextual (maxSteps:=4000000) only[↓bdD,bdP,Nat.reduceLT,Nat.reduceBEq,Ai,Nat.reduceAdd,↓reduceIte,CI,Eo,Nat.mul_one,ty3,Iw,B5,h48,hM,hh24,hi24,c1,c2,c3,c4]
      ·rw [decide_eq_false hbad]at hbs
       have c1:¬DT x h<0:=by omega
       have c2:¬1073741824<DT x h:=by omega
       have c3:¬Ew x h<0:=by omega
       have c4:¬1000000<Ew x h:=by omega
       simp +contextual (maxSteps:=4000000) only[↓bdD,bdP,Nat.reduceLT,Nat.reduceBEq,Nat.reduceAdd,↓reduceIte,CI,Eo,Nat.mul_one,ty3,Iw,B5,h48,hM,hh24,hi24,c1,c2,c3,c4,hw2,hbs]
     ·have e:h=24:=by omega
      subst e
      rw [hbh,if_neg (by simp)]at hstep
      simp +contextual (maxSteps:=4000000) only[↓bdD,bdP,Nat.reduceLT,Nat.reduceBEq,Int.reduceLT,↓reduceIte,h25,h48,hstep,hw1]
      rw [AI (by decide +kernel)];simp +contextual (maxSteps:=4000000) only[↓bdD,bdP,Nat.reduceBEq]
  ·have e:k=ls.length:=by omega
   subst e
   rw [hc]at hr
   subst hr
   simp +contextual (maxSteps:=4000000) only[↓bdD,bdP,Nat.reduceLT,Nat.reduceBEq,Ai,↓reduceIte,h25]
theorem yJ:XB:=yG yH
noncomputable def HE:(Int)×(List Lnk)→List PV:=fun (hn,ls) => [.agg [I hn,Ax ls]]
noncomputable def Ty:(Int)×(List Lnk)→PV:=fun (hn,ls)=>I (Cx hn ls)
def Tz:(Int)×(List Lnk)→Prop:=fun (hn,ls)=>True
noncomputable def e_rcheck:Nat×Ent:=(70,.v (Ah HE Ty Tz))
theorem mF:∀i j,HE i=HE j→i=j:=by
 rintro ⟨hn₁,ls₁⟩ ⟨hn₂,ls₂⟩ h
 simp only[HE,List.cons.injEq,and_true,PV.lits.injEq,PV.int.injEq,PV.agg.injEq,true_and,AF]at h
 simp [h] <;> omega
theorem MJ (hn:Int) (ls:List Lnk):Ah HE Ty Tz [.agg [I hn,Ax ls]]=some (I (Cx hn ls)):=AC mF (i:=(hn,ls)) trivial
def TA:Prop:=∀(hn:Int) (ls:List Lnk) ,VC Try.prog 70 [.agg [I hn,Ax ls]] (I (Cx hn ls))
def TB:Prop:=AL Try.prog e_rcheck.1 e_rcheck.2
theorem mG (c:TA):TB:=Ap fun⟨hn,ls⟩ h=>c hn ls
theorem mH:TA:=by
 intro hn ls
 refine A3 AP (l := [e_rhouse]) ((Ad Tx An)) [] []  Try.func70 rfl (by decide +kernel) (N:=85) rfl (by simp) rfl (by kernel_rfl) fun hs=>?_
 simp only[AJ,PV.small,List.length_map,and_true,true_and]at hs
 generalize hr:Cx hn ls=r
 unfold Cx at hr
 by_cases h1:hn<1
 ·rw [if_pos (.inl h1)]at hr
  subst hr
  simp +contextual (maxSteps:=4000000) only[↓bdD,bdP,Nat.reduceLT,Nat.reduceBEq,Ai,Nat.reduceAdd,st0,↓reduceIte,e_rhouse,Try.f70,ty3,Au,h1]
 by_cases h2:12<hn
 ·rw [if_pos (.inr (.inl h2))]at hr
  subst hr
  simp +contextual (maxSteps:=4000000) only[↓bdD,bdP,Nat.reduceLT,Nat.reduceBEq,Ai,Nat.reduceAdd,st0,↓reduceIte,e_rhouse,Try.f70,ty3,Au,h1,h2]
 by_cases h3:60<ls.length
 ·rw [if_pos (.inr (.inr h3))]at hr
  subst hr
  have h3i:(60:Int)<(ls.length:Int):=by omega
  simp +contextual (maxSteps:=4000000) only[↓bdD,bdP,Nat.reduceLT,Nat.reduceBEq,Ai,Nat.reduceAdd,st0,↓reduceIte,e_rhouse,Try.f70,ty3,By,Au,h1,h2,h3i]
 rw [if_neg (fun h=>h.elim h1 (fun h=>h.elim h2 h3))]at hr
 have h3':¬(60<(ls.length:Int)):=by omega
 have hw:∀i:Nat,i<100→IntKind.i64.wrap ((i:Int)+1)=((i+1:Nat):Int):=fun i g=>by rw[Aj (by omega) (by omega)];omega
 simp +contextual (maxSteps:=4000000) only[↓bdD,bdP,Nat.reduceLT,Nat.reduceBEq,Nat.reduceAdd,st0,↓reduceIte,e_rhouse,Try.f70,ty3,By,Au,h1,h2,h3']
 refine Ay [2,3,4,5,6,7,22,23,24,25,26,27,28,29,30,31,32,33,34,35,36,37,38,39,40,41,42,43,44,45,46,47,48,49,50,51,52,53,54,55,56,57,58,59,60,61,62,63,64,65,66,67,68,69,70,71,72,73,74,75,76,77,78,79,80,81,82,83,84] ls.length (fun k ρ st'=>ρ 3=I k∧ckT hn ls k=0) (.refl _) ?_ ?_
 ·simp +contextual (maxSteps:=4000000) only[↓bdD,bdP,ckT]
 ·rintro k ρ ⟨ob,M⟩ hk ⟨h3s,hc⟩
  by_cases hlt:k<ls.length
  ·have hstep:ckT hn ls (k+1)=JY hn (ls.getD k dL):=by simp only[ckT,hc,ne_eq,not_true_eq_false,if_false]
   have hk64:k<100:=by omega
   have hw1:=hw k hk64
   by_cases hb:hOK hn (ls.getD k dL).1=false∨hOK hn (ls.getD k dL).2.1=false∨(ls.getD k dL).1=(ls.getD k dL).2.1
   ·have hb1:JY hn (ls.getD k dL)=1:=by unfold JY;rw[if_pos hb]
    rw [hb1]at hstep
    have hend:=LJ (m:=ls.length) (by rw[hstep];decide) (show k+1≤ls.length by omega)
    rw [hend,hstep]at hr
    subst hr
    cases g1:hOK hn (ls.getD k dL).1
    ·simp +contextual (maxSteps:=4000000) only[↓bdD,bdP,Nat.reduceLT,Nat.reduceBEq,Ai,Nat.reduceAdd,Nat.reduceLeDiff,Store.new,Store.set,↓reduceIte,CN,A8,Ab,Bz,Dn,FE,B6,ty3,By,Au,B5,h3s,hlt,g1]
    cases g2:hOK hn (ls.getD k dL).2.1
    ·simp +contextual (maxSteps:=4000000) only[↓bdD,bdP,Nat.reduceLT,Nat.reduceBEq,Ai,Nat.reduceAdd,Nat.reduceLeDiff,Store.new,Store.set,↓reduceIte,CN,A8,Ab,Bz,Dn,FE,B6,ty3,By,Au,B5,h3s,hlt,g1,g2]
    have g3:(ls.getD k dL).1=(ls.getD k dL).2.1:=by
     rcases hb with hb | hb | hb
     ·rw [g1]at hb;cases hb
     ·rw [g2]at hb;cases hb
     ·exact hb
    simp +contextual (maxSteps:=4000000) only[↓bdD,bdP,Nat.reduceLT,Nat.reduceBEq,Ai,Nat.reduceAdd,Nat.reduceLeDiff,Store.new,Store.set,↓reduceIte,CN,A8,Ab,Bz,Dn,FE,B6,ty3,By,Au,B5,h3s,hlt,g2,g3]
   ·have g1:hOK hn (ls.getD k dL).1=true:=by cases g:hOK hn (ls.getD k dL).1;exact absurd (.inl g) hb;rfl
    have g2:hOK hn (ls.getD k dL).2.1=true:=by cases g:hOK hn (ls.getD k dL).2.1;exact absurd (.inr (.inl g)) hb;rfl
    have g3:¬(ls.getD k dL).1=(ls.getD k dL).2.1:=fun g=>hb (.inr (.inr g))
    have hb3:JY hn (ls.getD k dL)=if ER (ls.getD k dL) 24=true then 3 else 0:=by unfold JY;rw[if_neg hb]
    rw [hb3]at hstep
    generalize hx:ls.getD k dL=x at *
    simp +contextual (maxSteps:=4000000) only[↓bdD,bdP,Nat.reduceLT,Nat.reduceBEq,Nat.reduceAdd,Nat.reduceLeDiff,Store.new,Store.set,↓reduceIte,CN,A8,Ab,Bz,Dn,FE,B6,ty3,By,Au,B5,h3s,hlt,g1,g2,g3,hx]
    refine Ay [2,7,55,56,57,58,59,60,61,62,63,64,65,66,67,68,69,70,71,72,73,74,75,76,77,78,79,80,81,82,83,84] 24 (fun h ρ st'=>ρ 7=I h∧ER x h=false∧st'.obj M=some (.arr 0 50 [.agg (lkC x)])) (.refl _) ?_ ?_
    ·simp +contextual (maxSteps:=4000000) only[↓bdD,bdP,ER]
    ·rintro h ρ2 ⟨ob2,M2⟩ hh ⟨h7,hbh,hM⟩
     dsimp only at hM
     by_cases hh24:h<24
     ·have hw2:=hw h (by omega)
      have hi24:(h:Int)<24:=by omega
      have hbs:ER x (h+1)=decide (DT x h<0∨1073741824<DT x h∨Ew x h<0∨1000000<Ew x h):=by simp only[ER,hbh,Bool.false_or]
      by_cases hbad:DT x h<0∨1073741824<DT x h∨Ew x h<0∨1000000<Ew x h
      ·have he:ER x 24=true:=Ts (k:=h+1) (by rw[hbs];exact decide_eq_true hbad) (by omega)
       rw [if_pos he]at hstep
       have hend:=LJ (m:=ls.length) (by rw[hstep];decide) (show k+1≤ls.length by omega)
       rw [hend,hstep]at hr
       subst hr
       by_cases c1:DT x h<0
       ·simp +contextual (maxSteps:=4000000) only[↓bdD,bdP,Nat.reduceLT,Nat.reduceBEq,Ai,Nat.reduceAdd,↓reduceIte,CI,Nat.mul_one,ty3,Iw,B5,h7,hM,hh24,hi24,c1]
       by_cases c2:1073741824<DT x h
       ·simp +contextual (maxSteps:=4000000) only[↓bdD,bdP,Nat.reduceLT,Nat.reduceBEq,Ai,Nat.reduceAdd,↓reduceIte,CI,Nat.mul_one,ty3,Iw,B5,h7,hM,hh24,hi24,c1,c2]
       by_cases c3:Ew x h<0
       ·simp +contextual (maxSteps:=4000000) only[↓bdD,bdP,Nat.reduceLT,Nat.reduceBEq,Ai,Nat.reduceAdd,↓reduceIte,CI,Eo,Nat.mul_one,ty3,Iw,B5,h7,hM,hh24,hi24,c1,c2,c3]
       have c4:1000000<Ew x h:=by omega
       simp +contextual (maxSteps:=4000000) only[↓bdD,bdP,Nat.reduceLT,Nat.reduceBEq,Ai,Nat.reduceAdd,↓reduceIte,CI,Eo,Nat.mul_one,ty3,Iw,B5,h7,hM,hh24,hi24,c1,c2,c3,c4]
      ·rw [decide_eq_false hbad]at hbs
       have c1:¬DT x h<0:=by omega
       have c2:¬1073741824<DT x h:=by omega
       have c3:¬Ew x h<0:=by omega
       have c4:¬1000000<Ew x h:=by omega
       simp +contextual (maxSteps:=4000000) only[↓bdD,bdP,Nat.reduceLT,Nat.reduceBEq,Nat.reduceAdd,↓reduceIte,CI,Eo,Nat.mul_one,ty3,Iw,B5,h7,hM,hh24,hi24,c1,c2,c3,c4,hw2,hbs]
     ·have e:h=24:=by omega
      subst e
      rw [hbh,if_neg (by simp)]at hstep
      simp +contextual (maxSteps:=4000000) only[↓bdD,bdP,Nat.reduceLT,Nat.reduceBEq,Int.reduceLT,↓reduceIte,h3s,h7,hstep,hw1]
      rw [AI (by decide +kernel)];simp +contextual (maxSteps:=4000000) only[↓bdD,bdP,Nat.reduceBEq]
  ·have e:k=ls.length:=by omega
   subst e
   rw [hc]at hr
   subst hr
   simp +contextual (maxSteps:=4000000) only[↓bdD,bdP,Nat.reduceLT,Nat.reduceBEq,Ai,Nat.reduceAdd,↓reduceIte,By,Au,h3s]
theorem mI:TB:=mG mH
structure OKn (hn:Int) (ls:List Lnk):Prop where
 houses : 1≤hn∧hn≤12
 len : ls.length≤60
 ends : ∀k,k<ls.length→0≤(ls.getD k dL).1∧(ls.getD k dL).1<hn∧0≤(ls.getD k dL).2.1∧(ls.getD k dL).2.1<hn∧(ls.getD k dL).1≠(ls.getD k dL).2.1
 hours : ∀k h,k<ls.length→h<24→0≤DT (ls.getD k dL) h∧DT (ls.getD k dL) h≤1073741824∧0≤Ew (ls.getD k dL) h∧Ew (ls.getD k dL) h≤1000000
theorem badH_false {a:Lnk}:∀ {k},ER a k=false↔∀h,h<k→0≤DT a h∧DT a h≤1073741824∧0≤Ew a h∧Ew a h≤1000000
 | 0=>⟨fun _ h g=>absurd g (by omega),fun _=>rfl⟩
 | k+1=>by
  have ih:=@badH_false a k
  simp only[ER,Bool.or_eq_false_iff,ih,decide_eq_false_iff_not]
  constructor
  ·rintro ⟨h1,h2⟩ h hk
   by_cases e:h=k
   ·subst e;omega
   ·exact h1 h (by omega)
  ·intro h
   have := h k (by omega)
   exact ⟨fun i hi=>h i (by omega),by omega⟩
theorem TC {hn:Int} {ls:List Lnk}:∀ {k},ckT hn ls k=0↔∀i,i<k→JY hn (ls.getD i dL)=0
 | 0=>⟨fun _ h g=>absurd g (by omega),fun _=>rfl⟩
 | k+1=>by
  have ih:=@TC hn ls k
  simp only[ckT]
  by_cases h:ckT hn ls k=0
  ·rw [if_neg (fun hn=>hn h)]
   constructor
   ·intro hb i hi
    by_cases e:i=k
    ·subst e;exact hb
    ·exact ih.1 h i (by omega)
   ·intro g;exact g k (by omega)
  ·rw [if_pos h]
   exact ⟨fun g=>absurd g h,fun g=>absurd (ih.2 fun i hi=>g i (by omega)) h⟩
theorem check_zero {hn:Int} {ls:List Lnk}:Cx hn ls=0↔OKn hn ls:=by
 unfold Cx
 split
 ·rename_i h
  refine ⟨fun h=>(by cases h),fun g=>?_⟩
  have := g.houses
  have := g.len
  omega
 ·rename_i h
  rw [TC]
  constructor
  ·intro g
   have key:∀k,k<ls.length→¬(hOK hn (ls.getD k dL).1=false∨hOK hn (ls.getD k dL).2.1=false∨(ls.getD k dL).1=(ls.getD k dL).2.1)∧ER (ls.getD k dL) 24=false:=by
    intro k hk
    have := g k hk
    unfold JY at this
    split at this
    ·cases this
    ·rename_i h1
     refine ⟨h1,?_⟩
     cases hb:ER (ls.getD k dL) 24
     ·rfl
     ·rw [hb]at this;cases this
   refine ⟨by omega,by omega,fun k hk=>?_,fun k h hk hh=>?_⟩
   ·obtain ⟨h1,_⟩:=key k hk
    simp only[hOK,decide_eq_false_iff_not]at h1
    exact ⟨by omega,by omega,by omega,by omega,by omega⟩
   ·exact badH_false.1 (key k hk).2 h hh
  ·intro g k hk
   have h1:=g.ends k hk
   have h2:ER (ls.getD k dL) 24=false:=badH_false.2 fun h hh=>g.hours k h hk hh
   unfold JY
   rw [if_neg (by simp only[hOK,decide_eq_false_iff_not];omega),h2];rfl
end Sim
