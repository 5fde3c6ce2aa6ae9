/- What functions of this seat compute, by values: contracts (lemmas of the statement's proof, under the conditions that each names). -/
import Derived.Test.YtppljhpecoeakaaQV
set_option maxRecDepth 10000
set_option maxHeartbeats 2000000
set_option linter.unusedVariables false
set_option linter.unusedSimpArgs false
namespace Sim
open Go Go.Proofs
attribute [local congr] Ap Aq Al AC As Ar Av
def hOK (hn:Int) (h:Int):Bool:=decide (0≤h∧h<hn)
def EM (a:Lnk):Nat→Bool
 | 0=>false
 | h+1=>EM a h||decide (CL a h<0∨1073741824<CL a h∨Er a h<0∨1000000<Er a h)
def JT (hn:Int) (a:Lnk):Int:=if hOK hn a.1=false∨hOK hn a.2.1=false∨a.1=a.2.1 then 1 else if EM a 24=true then 3 else 0
def ckT (hn:Int) (ls:List Lnk):Nat→Int
 | 0=>0
 | k+1=>if ckT hn ls k≠0 then ckT hn ls k else JT hn (ls.getD k dL)
def Cz (hn:Int) (ls:List Lnk):Int:=if hn<1∨12<hn∨60<ls.length then 2 else ckT hn ls ls.length
theorem Oy {hn:Int} {ls:List Lnk} {k:Nat} (h:ckT hn ls k≠0):∀m,ckT hn ls (k+m)=ckT hn ls k
 | 0=>rfl
 | m+1=>by
  have ih:=Oy h m
  show (if ckT hn ls (k+m)≠0 then ckT hn ls (k+m)else _)=_
  rw [ih,if_pos h]
theorem LA {hn:Int} {ls:List Lnk} {k m:Nat} (h:ckT hn ls k≠0) (hk:k≤m):ckT hn ls m=ckT hn ls k:=by
 have := Oy h (m-k)
 rwa [show k+(m-k)=m by omega]at this
theorem MD {a:Lnk} {k:Nat} (h:EM a k=true):∀m,EM a (k+m)=true
 | 0=>h
 | m+1=>by show (EM a (k+m)||_)=true;rw[MD h m];rfl
theorem SY {a:Lnk} {k m:Nat} (h:EM a k=true) (hk:k≤m):EM a m=true:=by
 have := MD h (m-k)
 rwa [show k+(m-k)=m by omega]at this
noncomputable def JU:(Int)×(List Lnk)×(Int)→List PV:=fun (hn,ls,h) => [I h,.vptr [I hn,Az ls] 0]
noncomputable def W3:(Int)×(List Lnk)×(Int)→PV:=fun (hn,ls,h)=>B (hOK hn h)
def W4:(Int)×(List Lnk)×(Int)→Prop:=fun (hn,ls,h)=>True
noncomputable def e_house:Nat×Ent:=(79,.v (Ah JU W3 W4))
theorem wX:∀i j,JU i=JU j→i=j:=by
 rintro ⟨hn₁,ls₁,h₁⟩ ⟨hn₂,ls₂,h₂⟩ h
 simp only[JU,List.cons.injEq,and_true,PV.lits.injEq,PV.int.injEq,PV.vptr.injEq,true_and,AG]at h
 simp [h] <;> omega
theorem LB (hn:Int) (ls:List Lnk) (h:Int):Ah JU W3 W4 [I h,.vptr [I hn,Az ls] 0]=some (B (hOK hn h)):=AA wX (i:=(hn,ls,h)) trivial
def W5:Prop:=∀(hn:Int) (ls:List Lnk) (h:Int) ,VC Try.prog 79 [I h,.vptr [I hn,Az ls] 0] (B (hOK hn h))
def W6:Prop:=AM Try.prog e_house.1 e_house.2
theorem wY (c:W5):W6:=At fun⟨hn,ls,h⟩ h=>c hn ls h
theorem wZ:W5:=by
 intro hn ls h
 refine A5 AP (l := []) (Ao) [] []  Try.func79 rfl (by decide +kernel) (N:=12) rfl (by simp) rfl (by kernel_rfl) fun hs=>?_
 simp only[AI,PV.small,List.length_map,and_true,true_and]at hs
 generalize hr:hOK hn h=r
 by_cases h1:0≤h
 ·by_cases h2:h<hn
  ·simp only[hOK,h1,h2,and_self,decide_true]at hr
   subst hr
   simp +contextual (maxSteps:=4000000) only[↓bdD,bdP,Nat.reduceLT,Nat.reduceBEq,Ai,Nat.reduceAdd,st0,↓reduceIte,Try.f79,ty3,Aw,h1,h2]
  ·simp only[hOK,h1,h2,and_false,decide_false]at hr
   subst hr
   simp +contextual (maxSteps:=4000000) only[↓bdD,bdP,Nat.reduceLT,Nat.reduceBEq,Ai,Nat.reduceAdd,st0,↓reduceIte,Try.f79,ty3,Aw,h1,h2]
 ·simp only[hOK,h1,false_and,decide_false]at hr
  subst hr
  simp +contextual (maxSteps:=4000000) only[↓bdD,bdP,Nat.reduceLT,Nat.reduceBEq,Ai,st0,↓reduceIte,Try.f79,h1]
theorem xA:W6:=wY wZ
noncomputable def Hw:(Int)×(List Lnk)×(Int)→List PV:=fun (hn,ls,h) => [.agg [I hn,Az ls],I h]
noncomputable def SZ:(Int)×(List Lnk)×(Int)→PV:=fun (hn,ls,h)=>B (hOK hn h)
def S0:(Int)×(List Lnk)×(Int)→Prop:=fun (hn,ls,h)=>True
noncomputable def e_rhouse:Nat×Ent:=(71,.v (Ah Hw SZ S0))
theorem kV:∀i j,Hw i=Hw j→i=j:=by
 rintro ⟨hn₁,ls₁,h₁⟩ ⟨hn₂,ls₂,h₂⟩ h
 simp only[Hw,List.cons.injEq,and_true,PV.lits.injEq,PV.int.injEq,PV.agg.injEq,true_and,AG]at h
 simp [h] <;> omega
theorem CR (hn:Int) (ls:List Lnk) (h:Int):Ah Hw SZ S0 [.agg [I hn,Az ls],I h]=some (B (hOK hn h)):=AA kV (i:=(hn,ls,h)) trivial
def S3:Prop:=∀(hn:Int) (ls:List Lnk) (h:Int) ,VC Try.prog 71 [.agg [I hn,Az ls],I h] (B (hOK hn h))
def S4:Prop:=AM Try.prog e_rhouse.1 e_rhouse.2
theorem kW (c:S3):S4:=At fun⟨hn,ls,h⟩ h=>c hn ls h
theorem kX:S3:=by
 intro hn ls h
 refine A5 AP (l := []) (Ao) [] []  Try.func71 rfl (by decide +kernel) (N:=13) rfl (by simp) rfl (by kernel_rfl) fun hs=>?_
 simp only[AI,PV.small,List.length_map,and_true,true_and]at hs
 generalize hr:hOK hn h=r
 by_cases h1:0≤h
 ·by_cases h2:h<hn
  ·simp only[hOK,h1,h2,and_self,decide_true]at hr
   subst hr
   simp +contextual (maxSteps:=4000000) only[↓bdD,bdP,Nat.reduceLT,Nat.reduceBEq,Ai,Nat.reduceAdd,st0,↓reduceIte,Try.f71,ty3,Aw,h1,h2]
  ·simp only[hOK,h1,h2,and_false,decide_false]at hr
   subst hr
   simp +contextual (maxSteps:=4000000) only[↓bdD,bdP,Nat.reduceLT,Nat.reduceBEq,Ai,Nat.reduceAdd,st0,↓reduceIte,Try.f71,ty3,Aw,h1,h2]
 ·simp only[hOK,h1,false_and,decide_false]at hr
  subst hr
  simp +contextual (maxSteps:=4000000) only[↓bdD,bdP,Nat.reduceLT,Nat.reduceBEq,Ai,Nat.reduceAdd,st0,↓reduceIte,Try.f71,h1]
theorem S5:S4:=kW kX
noncomputable def JV:(Int)×(List Lnk)→List PV:=fun (hn,ls) => [.agg [I hn,Az ls]]
noncomputable def W7:(Int)×(List Lnk)→PV:=fun (hn,ls)=>I (Cz hn ls)
def W8:(Int)×(List Lnk)→Prop:=fun (hn,ls)=>True
noncomputable def e_check:Nat×Ent:=(67,.v (Ah JV W7 W8))
theorem xB:∀i j,JV i=JV j→i=j:=by
 rintro ⟨hn₁,ls₁⟩ ⟨hn₂,ls₂⟩ h
 simp only[JV,List.cons.injEq,and_true,PV.lits.injEq,PV.int.injEq,PV.agg.injEq,true_and,AG]at h
 simp [h] <;> omega
theorem Qv (hn:Int) (ls:List Lnk):Ah JV W7 W8 [.agg [I hn,Az ls]]=some (I (Cz hn ls)):=AA xB (i:=(hn,ls)) trivial
def W9:Prop:=∀(hn:Int) (ls:List Lnk) ,VC Try.prog 67 [.agg [I hn,Az ls]] (I (Cz hn ls))
def Xa:Prop:=AM Try.prog e_check.1 e_check.2
theorem xC (c:W9):Xa:=At fun⟨hn,ls⟩ h=>c hn ls
theorem xD:W9:=by
 intro hn ls
 refine A5 AP (l := [e_house]) ((Ae xA Ao)) [] []  Try.func67 rfl (by decide +kernel) (N:=79) rfl (by simp) rfl (by kernel_rfl) fun hs=>?_
 simp only[AI,PV.small,List.length_map,and_true,true_and]at hs
 generalize hr:Cz hn ls=r
 unfold Cz at hr
 by_cases h1:hn<1
 ·rw [if_pos (.inl h1)]at hr
  subst hr
  simp +contextual (maxSteps:=4000000) only[↓bdD,bdP,Nat.reduceLT,Nat.reduceBEq,Ai,Nat.reduceAdd,st0,↓reduceIte,e_house,Try.f67,ty3,Aw,h1]
 by_cases h2:12<hn
 ·rw [if_pos (.inr (.inl h2))]at hr
  subst hr
  simp +contextual (maxSteps:=4000000) only[↓bdD,bdP,Nat.reduceLT,Nat.reduceBEq,Ai,Nat.reduceAdd,st0,↓reduceIte,e_house,Try.f67,ty3,Aw,h1,h2]
 by_cases h3:60<ls.length
 ·rw [if_pos (.inr (.inr h3))]at hr
  subst hr
  have h3i:(60:Int)<(ls.length:Int):=by omega
  simp +contextual (maxSteps:=4000000) only[↓bdD,bdP,Nat.reduceLT,Nat.reduceBEq,Ai,Nat.reduceAdd,st0,↓reduceIte,e_house,Try.f67,ty3,By,Aw,h1,h2,h3i]
 rw [if_neg (fun h=>h.elim h1 (fun h=>h.elim h2 h3))]at hr
 have h3':¬(60<(ls.length:Int)):=by omega
 have hw:∀i:Nat,i<100→IntKind.i64.wrap ((i:Int)+1)=((i+1:Nat):Int):=fun i g=>by rw[Ag (by omega) (by omega)];omega
 simp +contextual (maxSteps:=4000000) only[↓bdD,bdP,Nat.reduceLT,Nat.reduceBEq,Nat.reduceAdd,st0,↓reduceIte,e_house,Try.f67,ty3,By,Aw,h1,h2,h3']
 refine Ax [2,5,6,25,26,27,28,29,30,31,32,33,34,35,36,37,38,39,40,41,42,43,44,45,46,47,48,49,50,51,52,53,54,55,56,57,58,59,60,61,62,63,64,65,66,67,68,69,70,71,72,73,74,75,76,77,78] ls.length (fun k ρ st'=>ρ 25=I k∧ckT hn ls k=0) (.refl _) ?_ ?_
 ·simp +contextual (maxSteps:=4000000) only[↓bdD,bdP,ckT]
 ·rintro k ρ ⟨ob,M⟩ hk ⟨h25,hc⟩
  by_cases hlt:k<ls.length
  ·have hstep:ckT hn ls (k+1)=JT hn (ls.getD k dL):=by simp only[ckT,hc,ne_eq,not_true_eq_false,if_false]
   have hk64:k<100:=by omega
   have hw1:=hw k hk64
   by_cases hb:hOK hn (ls.getD k dL).1=false∨hOK hn (ls.getD k dL).2.1=false∨(ls.getD k dL).1=(ls.getD k dL).2.1
   ·have hb1:JT hn (ls.getD k dL)=1:=by unfold JT;rw[if_pos hb]
    rw [hb1]at hstep
    have hend:=LA (m:=ls.length) (by rw[hstep];decide) (show k+1≤ls.length by omega)
    rw [hend,hstep]at hr
    subst hr
    cases g1:hOK hn (ls.getD k dL).1
    ·simp +contextual (maxSteps:=4000000) only[↓bdD,bdP,Nat.reduceLT,Nat.reduceBEq,Ai,Nat.reduceAdd,Nat.reduceLeDiff,Store.new,Store.set,↓reduceIte,LB,Br,Ab,BG,Fd,CQ,ty3,By,B6,h25,hlt,g1]
    cases g2:hOK hn (ls.getD k dL).2.1
    ·simp +contextual (maxSteps:=4000000) only[↓bdD,bdP,Nat.reduceLT,Nat.reduceBEq,Ai,Nat.reduceAdd,Nat.reduceLeDiff,Store.new,Store.set,↓reduceIte,LB,Br,Ab,BG,Fd,IE,CQ,ty3,By,B6,h25,hlt,g1,g2]
    have g3:(ls.getD k dL).1=(ls.getD k dL).2.1:=by
     rcases hb with hb | hb | hb
     ·rw [g1]at hb;cases hb
     ·rw [g2]at hb;cases hb
     ·exact hb
    simp +contextual (maxSteps:=4000000) only[↓bdD,bdP,Nat.reduceLT,Nat.reduceBEq,Ai,Nat.reduceAdd,Nat.reduceLeDiff,Store.new,Store.set,↓reduceIte,LB,Br,Ab,BG,Fd,IE,CQ,ty3,By,B6,h25,hlt,g2,g3]
   ·have g1:hOK hn (ls.getD k dL).1=true:=by cases g:hOK hn (ls.getD k dL).1;exact absurd (.inl g) hb;rfl
    have g2:hOK hn (ls.getD k dL).2.1=true:=by cases g:hOK hn (ls.getD k dL).2.1;exact absurd (.inr (.inl g)) hb;rfl
    have g3:¬(ls.getD k dL).1=(ls.getD k dL).2.1:=fun g=>hb (.inr (.inr g))
    have hb3:JT hn (ls.getD k dL)=if EM (ls.getD k dL) 24=true then 3 else 0:=by unfold JT;rw[if_neg hb]
    rw [hb3]at hstep
    generalize hx:ls.getD k dL=x at *
    simp +contextual (maxSteps:=4000000) only[↓bdD,bdP,Nat.reduceLT,Nat.reduceBEq,Nat.reduceAdd,Nat.reduceLeDiff,Store.new,Store.set,↓reduceIte,LB,Br,Ab,BG,Fd,IE,CQ,ty3,By,B6,h25,hlt,g1,g2,g3,hx]
    refine Ax [2,6,48,49,50,51,52,53,54,55,56,57,58,59,60,61,62,63,64,65,66,67,68,69,70,71,72,73,74,75,76,77] 24 (fun h ρ st'=>ρ 48=I h∧EM x h=false∧st'.obj M=some (.arr 0 50 [.agg (lkC x)])) (.refl _) ?_ ?_
    ·simp +contextual (maxSteps:=4000000) only[↓bdD,bdP,EM]
    ·rintro h ρ2 ⟨ob2,M2⟩ hh ⟨h48,hbh,hM⟩
     dsimp only at hM
     by_cases hh24:h<24
     ·have hw2:=hw h (by omega)
      have hi24:(h:Int)<24:=by omega
      have hbs:EM x (h+1)=decide (CL x h<0∨1073741824<CL x h∨Er x h<0∨1000000<Er x h):=by simp only[EM,hbh,Bool.false_or]
      by_cases hbad:CL x h<0∨1073741824<CL x h∨Er x h<0∨1000000<Er x h
      ·have he:EM x 24=true:=SY (k:=h+1) (by rw[hbs];exact decide_eq_true hbad) (by omega)
       rw [if_pos he]at hstep
       have hend:=LA (m:=ls.length) (by rw[hstep];decide) (show k+1≤ls.length by omega)
       rw [hend,hstep]at hr
       subst hr
       by_cases c1:CL x h<0
       ·simp +contextual (maxSteps:=4000000) only[↓bdD,bdP,Nat.reduceLT,Nat.reduceBEq,Ai,Nat.reduceAdd,↓reduceIte,Cu,Nat.mul_one,ty3,GT,B6,h48,hM,hh24,hi24,c1]
       by_cases c2:1073741824<CL x h
       ·simp +contextual (maxSteps:=4000000) only[↓bdD,bdP,Nat.reduceLT,Nat.reduceBEq,Ai,Nat.reduceAdd,↓reduceIte,Cu,Nat.mul_one,ty3,GT,B6,h48,hM,hh24,hi24,c1,c2]
       by_cases c3:Er x h<0
       ·simp +contextual (maxSteps:=4000000) only[↓bdD,bdP,Nat.reduceLT,Nat.reduceBEq,Ai,Nat.reduceAdd,↓reduceIte,Cu,Ei,Nat.mul_one,ty3,GT,B6,h48,hM,hh24,hi24,c1,c2,c3]
       have c4:1000000<Er x h:=by omega
       simp +contextual (maxSteps:=4000000) only[↓bdD,bdP,Nat.reduceLT,Nat.reduceBEq,Ai,Nat.reduceAdd,↓reduceIte,Cu,Ei,Nat.mul_one,ty3,GT,B6,h48,hM,hh24,hi24,c1,c2,c3,c4]
      ·rw [decide_eq_false hbad]at hbs
       have c1:¬CL x h<0:=by omega
       have c2:¬1073741824<CL x h:=by omega
       have c3:¬Er x h<0:=by omega
       have c4:¬1000000<Er x h:=by omega
       simp +contextual (maxSteps:=4000000) only[↓bdD,bdP,Nat.reduceLT,Nat.reduceBEq,Nat.reduceAdd,↓reduceIte,Cu,Ei,Nat.mul_one,ty3,GT,B6,h48,hM,hh24,hi24,c1,c2,c3,c4,hw2,hbs]
     ·have e:h=24:=by omega
      subst e
      rw [hbh,if_neg (by simp)]at hstep
      simp +contextual (maxSteps:=4000000) only[↓bdD,bdP,Nat.reduceLT,Nat.reduceBEq,Int.reduceLT,↓reduceIte,h25,h48,hstep,hw1]
      rw [AF (by decide +kernel)];simp +contextual (maxSteps:=4000000) only[↓bdD,bdP,Nat.reduceBEq]
  ·have e:k=ls.length:=by omega
   subst e
   rw [hc]at hr
   subst hr
   simp +contextual (maxSteps:=4000000) only[↓bdD,bdP,Nat.reduceLT,Nat.reduceBEq,Ai,↓reduceIte,h25]
theorem xE:Xa:=xC xD
noncomputable def Hx:(Int)×(List Lnk)→List PV:=fun (hn,ls) => [.agg [I hn,Az ls]]
noncomputable def S6:(Int)×(List Lnk)→PV:=fun (hn,ls)=>I (Cz hn ls)
def S7:(Int)×(List Lnk)→Prop:=fun (hn,ls)=>True
noncomputable def e_rcheck:Nat×Ent:=(70,.v (Ah Hx S6 S7))
theorem kY:∀i j,Hx i=Hx j→i=j:=by
 rintro ⟨hn₁,ls₁⟩ ⟨hn₂,ls₂⟩ h
 simp only[Hx,List.cons.injEq,and_true,PV.lits.injEq,PV.int.injEq,PV.agg.injEq,true_and,AG]at h
 simp [h] <;> omega
theorem ME (hn:Int) (ls:List Lnk):Ah Hx S6 S7 [.agg [I hn,Az ls]]=some (I (Cz hn ls)):=AA kY (i:=(hn,ls)) trivial
def S8:Prop:=∀(hn:Int) (ls:List Lnk) ,VC Try.prog 70 [.agg [I hn,Az ls]] (I (Cz hn ls))
def S9:Prop:=AM Try.prog e_rcheck.1 e_rcheck.2
theorem kZ (c:S8):S9:=At fun⟨hn,ls⟩ h=>c hn ls
theorem lA:S8:=by
 intro hn ls
 refine A5 AP (l := [e_rhouse]) ((Ae S5 Ao)) [] []  Try.func70 rfl (by decide +kernel) (N:=85) rfl (by simp) rfl (by kernel_rfl) fun hs=>?_
 simp only[AI,PV.small,List.length_map,and_true,true_and]at hs
 generalize hr:Cz hn ls=r
 unfold Cz at hr
 by_cases h1:hn<1
 ·rw [if_pos (.inl h1)]at hr
  subst hr
  simp +contextual (maxSteps:=4000000) only[↓bdD,bdP,Nat.reduceLT,Nat.reduceBEq,Ai,Nat.reduceAdd,st0,↓reduceIte,e_rhouse,Try.f70,ty3,Aw,h1]
 by_cases h2:12<hn
 ·rw [if_pos (.inr (.inl h2))]at hr
  subst hr
  simp +contextual (maxSteps:=4000000) only[↓bdD,bdP,Nat.reduceLT,Nat.reduceBEq,Ai,Nat.reduceAdd,st0,↓reduceIte,e_rhouse,Try.f70,ty3,Aw,h1,h2]
 by_cases h3:60<ls.length
 ·rw [if_pos (.inr (.inr h3))]at hr
  subst hr
  have h3i:(60:Int)<(ls.length:Int):=by omega
  simp +contextual (maxSteps:=4000000) only[↓bdD,bdP,Nat.reduceLT,Nat.reduceBEq,Ai,Nat.reduceAdd,st0,↓reduceIte,e_rhouse,Try.f70,ty3,By,Aw,h1,h2,h3i]
 rw [if_neg (fun h=>h.elim h1 (fun h=>h.elim h2 h3))]at hr
 have h3':¬(60<(ls.length:Int)):=by omega
 have hw:∀i:Nat,i<100→IntKind.i64.wrap ((i:Int)+1)=((i+1:Nat):Int):=fun i g=>by rw[Ag (by omega) (by omega)];omega
 simp +contextual (maxSteps:=4000000) only[↓bdD,bdP,Nat.reduceLT,Nat.reduceBEq,Nat.reduceAdd,st0,↓reduceIte,e_rhouse,Try.f70,ty3,By,Aw,h1,h2,h3']
 refine Ax [2,3,4,5,6,7,22,23,24,25,26,27,28,29,30,31,32,33,34,35,36,37,38,39,40,41,42,43,44,45,46,47,48,49,50,51,52,53,54,55,56,57,58,59,60,61,62,63,64,65,66,67,68,69,70,71,72,73,74,75,76,77,78,79,80,81,82,83,84] ls.length (fun k ρ st'=>ρ 3=I k∧ckT hn ls k=0) (.refl _) ?_ ?_
 ·simp +contextual (maxSteps:=4000000) only[↓bdD,bdP,ckT]
 ·rintro k ρ ⟨ob,M⟩ hk ⟨h3s,hc⟩
  by_cases hlt:k<ls.length
  ·have hstep:ckT hn ls (k+1)=JT hn (ls.getD k dL):=by simp only[ckT,hc,ne_eq,not_true_eq_false,if_false]
   have hk64:k<100:=by omega
   have hw1:=hw k hk64
   by_cases hb:hOK hn (ls.getD k dL).1=false∨hOK hn (ls.getD k dL).2.1=false∨(ls.getD k dL).1=(ls.getD k dL).2.1
   ·have hb1:JT hn (ls.getD k dL)=1:=by unfold JT;rw[if_pos hb]
    rw [hb1]at hstep
    have hend:=LA (m:=ls.length) (by rw[hstep];decide) (show k+1≤ls.length by omega)
    rw [hend,hstep]at hr
    subst hr
    cases g1:hOK hn (ls.getD k dL).1
    ·simp +contextual (maxSteps:=4000000) only[↓bdD,bdP,Nat.reduceLT,Nat.reduceBEq,Ai,Nat.reduceAdd,Nat.reduceLeDiff,Store.new,Store.set,↓reduceIte,CR,Br,Ab,BG,Fd,IE,CQ,ty3,By,Aw,B6,h3s,hlt,g1]
    cases g2:hOK hn (ls.getD k dL).2.1
    ·simp +contextual (maxSteps:=4000000) only[↓bdD,bdP,Nat.reduceLT,Nat.reduceBEq,Ai,Nat.reduceAdd,Nat.reduceLeDiff,Store.new,Store.set,↓reduceIte,CR,Br,Ab,BG,Fd,IE,CQ,ty3,By,Aw,B6,h3s,hlt,g1,g2]
    have g3:(ls.getD k dL).1=(ls.getD k dL).2.1:=by
     rcases hb with hb | hb | hb
     ·rw [g1]at hb;cases hb
     ·rw [g2]at hb;cases hb
     ·exact hb
    simp +contextual (maxSteps:=4000000) only[↓bdD,bdP,Nat.reduceLT,Nat.reduceBEq,Ai,Nat.reduceAdd,Nat.reduceLeDiff,Store.new,Store.set,↓reduceIte,CR,Br,Ab,BG,Fd,IE,CQ,ty3,By,Aw,B6,h3s,hlt,g2,g3]
   ·have g1:hOK hn (ls.getD k dL).1=true:=by cases g:hOK hn (ls.getD k dL).1;exact absurd (.inl g) hb;rfl
    have g2:hOK hn (ls.getD k dL).2.1=true:=by cases g:hOK hn (ls.getD k dL).2.1;exact absurd (.inr (.inl g)) hb;rfl
    have g3:¬(ls.getD k dL).1=(ls.getD k dL).2.1:=fun g=>hb (.inr (.inr g))
    have hb3:JT hn (ls.getD k dL)=if EM (ls.getD k dL) 24=true then 3 else 0:=by unfold JT;rw[if_neg hb]
    rw [hb3]at hstep
    generalize hx:ls.getD k dL=x at *
    simp +contextual (maxSteps:=4000000) only[↓bdD,bdP,Nat.reduceLT,Nat.reduceBEq,Nat.reduceAdd,Nat.reduceLeDiff,Store.new,Store.set,↓reduceIte,CR,Br,Ab,BG,Fd,IE,CQ,ty3,By,Aw,B6,h3s,hlt,g1,g2,g3,hx]
    refine Ax [2,7,55,56,57,58,59,60,61,62,63,64,65,66,67,68,69,70,71,72,73,74,75,76,77,78,79,80,81,82,83,84] 24 (fun h ρ st'=>ρ 7=I h∧EM x h=false∧st'.obj M=some (.arr 0 50 [.agg (lkC x)])) (.refl _) ?_ ?_
    ·simp +contextual (maxSteps:=4000000) only[↓bdD,bdP,EM]
    ·rintro h ρ2 ⟨ob2,M2⟩ hh ⟨h7,hbh,hM⟩
     dsimp only at hM
     by_cases hh24:h<24
     ·have hw2:=hw h (by omega)
      have hi24:(h:Int)<24:=by omega
      have hbs:EM x (h+1)=decide (CL x h<0∨1073741824<CL x h∨Er x h<0∨1000000<Er x h):=by simp only[EM,hbh,Bool.false_or]
      by_cases hbad:CL x h<0∨1073741824<CL x h∨Er x h<0∨1000000<Er x h
      ·have he:EM x 24=true:=SY (k:=h+1) (by rw[hbs];exact decide_eq_true hbad) (by omega)
       rw [if_pos he]at hstep
       have hend:=LA (m:=ls.length) (by rw[hstep];decide) (show k+1≤ls.length by omega)
       rw [hend,hstep]at hr
       subst hr
       by_cases c1:CL x h<0
       ·simp +contextual (maxSteps:=4000000) only[↓bdD,bdP,Nat.reduceLT,Nat.reduceBEq,Ai,Nat.reduceAdd,↓reduceIte,Cu,Nat.mul_one,ty3,GT,B6,h7,hM,hh24,hi24,c1]
       by_cases c2:1073741824<CL x h
       ·simp +contextual (maxSteps:=4000000) only[↓bdD,bdP,Nat.reduceLT,Nat.reduceBEq,Ai,Nat.reduceAdd,↓reduceIte,Cu,Nat.mul_one,ty3,GT,B6,h7,hM,hh24,hi24,c1,c2]
       by_cases c3:Er x h<0
       ·simp +contextual (maxSteps:=4000000) only[↓bdD,bdP,Nat.reduceLT,Nat.reduceBEq,Ai,Nat.reduceAdd,↓reduceIte,Cu,Ei,Nat.mul_one,ty3,GT,B6,h7,hM,hh24,hi24,c1,c2,c3]
       have c4:1000000<Er x h:=by omega
       simp +contextual (maxSteps:=4000000) only[↓bdD,bdP,Nat.reduceLT,Nat.reduceBEq,Ai,Nat.reduceAdd,↓reduceIte,Cu,Ei,Nat.mul_one,ty3,GT,B6,h7,hM,hh24,hi24,c1,c2,c3,c4]
      ·rw [decide_eq_false hbad]at hbs
       have c1:¬CL x h<0:=by omega
       have c2:¬1073741824<CL x h:=by omega
       have c3:¬Er x h<0:=by omega
       have c4:¬1000000<Er x h:=by omega
       simp +contextual (maxSteps:=4000000) only[↓bdD,bdP,Nat.reduceLT,Nat.reduceBEq,Nat.reduceAdd,↓reduceIte,Cu,Ei,Nat.mul_one,ty3,GT,B6,h7,hM,hh24,hi24,c1,c2,c3,c4,hw2,hbs]
     ·have e:h=24:=by omega
      subst e
      rw [hbh,if_neg (by simp)]at hstep
      simp +contextual (maxSteps:=4000000) only[↓bdD,bdP,Nat.reduceLT,Nat.reduceBEq,Int.reduceLT,↓reduceIte,h3s,h7,hstep,hw1]
      rw [AF (by decide +kernel)];simp +contextual (maxSteps:=4000000) only[↓bdD,bdP,Nat.reduceBEq]
  ·have e:k=ls.length:=by omega
   subst e
   rw [hc]at hr
   subst hr
   simp +contextual (maxSteps:=4000000) only[↓bdD,bdP,Nat.reduceLT,Nat.reduceBEq,Ai,Nat.reduceAdd,↓reduceIte,By,Aw,h3s]
theorem lB:S9:=kZ lA
structure OKn (hn:Int) (ls:List Lnk):Prop where
 houses : 1≤hn∧hn≤12
 len : ls.length≤60
 ends : ∀k,k<ls.length→0≤(ls.getD k dL).1∧(ls.getD k dL).1<hn∧0≤(ls.getD k dL).2.1∧(ls.getD k dL).2.1<hn∧(ls.getD k dL).1≠(ls.getD k dL).2.1
 hours : ∀k h,k<ls.length→h<24→0≤CL (ls.getD k dL) h∧CL (ls.getD k dL) h≤1073741824∧0≤Er (ls.getD k dL) h∧Er (ls.getD k dL) h≤1000000
theorem badH_false {a:Lnk}:∀ {k},EM a k=false↔∀h,h<k→0≤CL a h∧CL a h≤1073741824∧0≤Er a h∧Er a h≤1000000
 | 0=>⟨fun _ h g=>absurd g (by omega),fun _=>rfl⟩
 | k+1=>by
  have ih:=@badH_false a k
  simp only[EM,Bool.or_eq_false_iff,ih,decide_eq_false_iff_not]
  constructor
  ·rintro ⟨h1,h2⟩ h hk
   by_cases e:h=k
   ·subst e;omega
   ·exact h1 h (by omega)
  ·intro h
   have := h k (by omega)
   exact ⟨fun i hi=>h i (by omega),by omega⟩
theorem Ta {hn:Int} {ls:List Lnk}:∀ {k},ckT hn ls k=0↔∀i,i<k→JT hn (ls.getD i dL)=0
 | 0=>⟨fun _ h g=>absurd g (by omega),fun _=>rfl⟩
 | k+1=>by
  have ih:=@Ta hn ls k
  simp only[ckT]
  by_cases h:ckT hn ls k=0
  ·rw [if_neg (fun hn=>hn h)]
   constructor
   ·intro hb i hi
    by_cases e:i=k
    ·subst e;exact hb
    ·exact ih.1 h i (by omega)
   ·intro g;exact g k (by omega)
  ·rw [if_pos h]
   exact ⟨fun g=>absurd g h,fun g=>absurd (ih.2 fun i hi=>g i (by omega)) h⟩
theorem check_zero {hn:Int} {ls:List Lnk}:Cz hn ls=0↔OKn hn ls:=by
 unfold Cz
 split
 ·rename_i h
  refine ⟨fun h=>(by cases h),fun g=>?_⟩
  have := g.houses
  have := g.len
  omega
 ·rename_i h
  rw [Ta]
  constructor
  ·intro g
   have key:∀k,k<ls.length→¬(hOK hn (ls.getD k dL).1=false∨hOK hn (ls.getD k dL).2.1=false∨(ls.getD k dL).1=(ls.getD k dL).2.1)∧EM (ls.getD k dL) 24=false:=by
    intro k hk
    have := g k hk
    unfold JT at this
    split at this
    ·cases this
    ·rename_i h1
     refine ⟨h1,?_⟩
     cases hb:EM (ls.getD k dL) 24
     ·rfl
     ·rw [hb]at this;cases this
   refine ⟨by omega,by omega,fun k hk=>?_,fun k h hk hh=>?_⟩
   ·obtain ⟨h1,_⟩:=key k hk
    simp only[hOK,decide_eq_false_iff_not]at h1
    exact ⟨by omega,by omega,by omega,by omega,by omega⟩
   ·exact badH_false.1 (key k hk).2 h hh
  ·intro g k hk
   have h1:=g.ends k hk
   have h2:EM (ls.getD k dL) 24=false:=badH_false.2 fun h hh=>g.hours k h hk hh
   unfold JT
   rw [if_neg (by simp only[hOK,decide_eq_false_iff_not];omega),h2];rfl
end Sim
