/- What functions of this seat compute, by values: contracts (lemmas of the statement's proof, under the conditions that each names). -/
import Derived.Test.YtppljhpecoeakaaQV
set_option maxRecDepth 10000
set_option maxHeartbeats 2000000
set_option linter.unusedVariables false
set_option linter.unusedSimpArgs false
namespace Sim
open Go Go.Proofs
attribute [local congr] An Ao Al AC Aq Ap Av
def hOK (hn:Int) (h:Int):Bool:=decide (0≤h∧h<hn)
def EF (a:Lnk):Nat→Bool
 | 0=>false
 | h+1=>EF a h||decide (DL a h<0∨1073741824<DL a h∨El a h<0∨1000000<El a h)
def JM (hn:Int) (a:Lnk):Int:=if hOK hn a.1=false∨hOK hn a.2.1=false∨a.1=a.2.1 then 1 else if EF a 24=true then 3 else 0
def ckT (hn:Int) (ls:List Lnk):Nat→Int
 | 0=>0
 | k+1=>if ckT hn ls k≠0 then ckT hn ls k else JM hn (ls.getD k dL)
def Ct (hn:Int) (ls:List Lnk):Int:=if hn<1∨12<hn∨60<ls.length then 2 else ckT hn ls ls.length
theorem Ol {hn:Int} {ls:List Lnk} {k:Nat} (h:ckT hn ls k≠0):∀m,ckT hn ls (k+m)=ckT hn ls k
 | 0=>rfl
 | m+1=>by
  have ih:=Ol h m
  show (if ckT hn ls (k+m)≠0 then ckT hn ls (k+m)else _)=_
  rw [ih,if_pos h]
theorem Lx {hn:Int} {ls:List Lnk} {k m:Nat} (h:ckT hn ls k≠0) (hk:k≤m):ckT hn ls m=ckT hn ls k:=by
 have := Ol h (m-k)
 rwa [show k+(m-k)=m by omega]at this
theorem Mw {a:Lnk} {k:Nat} (h:EF a k=true):∀m,EF a (k+m)=true
 | 0=>h
 | m+1=>by show (EF a (k+m)||_)=true;rw[Mw h m];rfl
theorem SJ {a:Lnk} {k m:Nat} (h:EF a k=true) (hk:k≤m):EF a m=true:=by
 have := Mw h (m-k)
 rwa [show k+(m-k)=m by omega]at this
noncomputable def JN:(Int)×(List Lnk)×(Int)→List PV:=fun (hn,ls,h) => [I h,.vptr [I hn,Az ls] 0]
noncomputable def WJ:(Int)×(List Lnk)×(Int)→PV:=fun (hn,ls,h)=>B (hOK hn h)
def WK:(Int)×(List Lnk)×(Int)→Prop:=fun (hn,ls,h)=>True
noncomputable def e_house:Nat×Ent:=(79,.v (Ah JN WJ WK))
theorem vJ:∀i j,JN i=JN j→i=j:=by
 rintro ⟨hn₁,ls₁,h₁⟩ ⟨hn₂,ls₂,h₂⟩ h
 simp only[JN,List.cons.injEq,and_true,PV.lits.injEq,PV.int.injEq,PV.vptr.injEq,true_and,AG]at h
 simp [h] <;> omega
theorem Ly (hn:Int) (ls:List Lnk) (h:Int):Ah JN WJ WK [I h,.vptr [I hn,Az ls] 0]=some (B (hOK hn h)):=Ay vJ (i:=(hn,ls,h)) trivial
def WL:Prop:=∀(hn:Int) (ls:List Lnk) (h:Int) ,VC Try.prog 79 [I h,.vptr [I hn,Az ls] 0] (B (hOK hn h))
def WM:Prop:=AN Try.prog e_house.1 e_house.2
theorem vK (c:WL):WM:=At fun⟨hn,ls,h⟩ h=>c hn ls h
theorem vL:WL:=by
 intro hn ls h
 refine A5 AR (l := []) (As) [] []  Try.func79 rfl (by decide +kernel) (N:=12) rfl (by simp) rfl (by kernel_rfl) fun hs=>?_
 simp only[AI,PV.small,List.length_map,and_true,true_and]at hs
 generalize hr:hOK hn h=r
 by_cases h1:0≤h
 ·by_cases h2:h<hn
  ·simp only[hOK,h1,h2,and_self,decide_true]at hr
   subst hr
   simp +contextual (maxSteps:=4000000) only[↓bdD,bdP,Nat.reduceLT,Nat.reduceBEq,Ag,Nat.reduceAdd,st0,↓reduceIte,Try.f79,ty3,Au,h1,h2]
  ·simp only[hOK,h1,h2,and_false,decide_false]at hr
   subst hr
   simp +contextual (maxSteps:=4000000) only[↓bdD,bdP,Nat.reduceLT,Nat.reduceBEq,Ag,Nat.reduceAdd,st0,↓reduceIte,Try.f79,ty3,Au,h1,h2]
 ·simp only[hOK,h1,false_and,decide_false]at hr
  subst hr
  simp +contextual (maxSteps:=4000000) only[↓bdD,bdP,Nat.reduceLT,Nat.reduceBEq,Ag,st0,↓reduceIte,Try.f79,h1]
theorem vM:WM:=vK vL
noncomputable def Hs:(Int)×(List Lnk)×(Int)→List PV:=fun (hn,ls,h) => [.agg [I hn,Az ls],I h]
noncomputable def SK:(Int)×(List Lnk)×(Int)→PV:=fun (hn,ls,h)=>B (hOK hn h)
def SL:(Int)×(List Lnk)×(Int)→Prop:=fun (hn,ls,h)=>True
noncomputable def e_rhouse:Nat×Ent:=(71,.v (Ah Hs SK SL))
theorem jQ:∀i j,Hs i=Hs j→i=j:=by
 rintro ⟨hn₁,ls₁,h₁⟩ ⟨hn₂,ls₂,h₂⟩ h
 simp only[Hs,List.cons.injEq,and_true,PV.lits.injEq,PV.int.injEq,PV.agg.injEq,true_and,AG]at h
 simp [h] <;> omega
theorem CJ (hn:Int) (ls:List Lnk) (h:Int):Ah Hs SK SL [.agg [I hn,Az ls],I h]=some (B (hOK hn h)):=Ay jQ (i:=(hn,ls,h)) trivial
def SM:Prop:=∀(hn:Int) (ls:List Lnk) (h:Int) ,VC Try.prog 71 [.agg [I hn,Az ls],I h] (B (hOK hn h))
def SN:Prop:=AN Try.prog e_rhouse.1 e_rhouse.2
theorem jR (c:SM):SN:=At fun⟨hn,ls,h⟩ h=>c hn ls h
theorem jT:SM:=by
 intro hn ls h
 refine A5 AR (l := []) (As) [] []  Try.func71 rfl (by decide +kernel) (N:=13) rfl (by simp) rfl (by kernel_rfl) fun hs=>?_
 simp only[AI,PV.small,List.length_map,and_true,true_and]at hs
 generalize hr:hOK hn h=r
 by_cases h1:0≤h
 ·by_cases h2:h<hn
  ·simp only[hOK,h1,h2,and_self,decide_true]at hr
   subst hr
   simp +contextual (maxSteps:=4000000) only[↓bdD,bdP,Nat.reduceLT,Nat.reduceBEq,Ag,Nat.reduceAdd,st0,↓reduceIte,Try.f71,ty3,Au,h1,h2]
  ·simp only[hOK,h1,h2,and_false,decide_false]at hr
   subst hr
   simp +contextual (maxSteps:=4000000) only[↓bdD,bdP,Nat.reduceLT,Nat.reduceBEq,Ag,Nat.reduceAdd,st0,↓reduceIte,Try.f71,ty3,Au,h1,h2]
 ·simp only[hOK,h1,false_and,decide_false]at hr
  subst hr
  simp +contextual (maxSteps:=4000000) only[↓bdD,bdP,Nat.reduceLT,Nat.reduceBEq,Ag,Nat.reduceAdd,st0,↓reduceIte,Try.f71,h1]
theorem SP:SN:=jR jT
noncomputable def JO:(Int)×(List Lnk)→List PV:=fun (hn,ls) => [.agg [I hn,Az ls]]
noncomputable def WN:(Int)×(List Lnk)→PV:=fun (hn,ls)=>I (Ct hn ls)
def WO:(Int)×(List Lnk)→Prop:=fun (hn,ls)=>True
noncomputable def e_check:Nat×Ent:=(67,.v (Ah JO WN WO))
theorem vO:∀i j,JO i=JO j→i=j:=by
 rintro ⟨hn₁,ls₁⟩ ⟨hn₂,ls₂⟩ h
 simp only[JO,List.cons.injEq,and_true,PV.lits.injEq,PV.int.injEq,PV.agg.injEq,true_and,AG]at h
 simp [h] <;> omega
theorem Ql (hn:Int) (ls:List Lnk):Ah JO WN WO [.agg [I hn,Az ls]]=some (I (Ct hn ls)):=Ay vO (i:=(hn,ls)) trivial
def WQ:Prop:=∀(hn:Int) (ls:List Lnk) ,VC Try.prog 67 [.agg [I hn,Az ls]] (I (Ct hn ls))
def WR:Prop:=AN Try.prog e_check.1 e_check.2
theorem vP (c:WQ):WR:=At fun⟨hn,ls⟩ h=>c hn ls
theorem vQ:WQ:=by
 intro hn ls
 refine A5 AR (l := [e_house]) ((Ae vM As)) [] []  Try.func67 rfl (by decide +kernel) (N:=79) rfl (by simp) rfl (by kernel_rfl) fun hs=>?_
 simp only[AI,PV.small,List.length_map,and_true,true_and]at hs
 generalize hr:Ct hn ls=r
 unfold Ct at hr
 by_cases h1:hn<1
 ·rw [if_pos (.inl h1)]at hr
  subst hr
  simp +contextual (maxSteps:=4000000) only[↓bdD,bdP,Nat.reduceLT,Nat.reduceBEq,Ag,Nat.reduceAdd,st0,↓reduceIte,e_house,Try.f67,ty3,Au,h1]
 by_cases h2:12<hn
 ·rw [if_pos (.inr (.inl h2))]at hr
  subst hr
  simp +contextual (maxSteps:=4000000) only[↓bdD,bdP,Nat.reduceLT,Nat.reduceBEq,Ag,Nat.reduceAdd,st0,↓reduceIte,e_house,Try.f67,ty3,Au,h1,h2]
 by_cases h3:60<ls.length
 ·rw [if_pos (.inr (.inr h3))]at hr
  subst hr
  have h3i:(60:Int)<(ls.length:Int):=by omega
  simp +contextual (maxSteps:=4000000) only[↓bdD,bdP,Nat.reduceLT,Nat.reduceBEq,Ag,Nat.reduceAdd,st0,↓reduceIte,e_house,Try.f67,ty3,BE,Au,h1,h2,h3i]
 rw [if_neg (fun h=>h.elim h1 (fun h=>h.elim h2 h3))]at hr
 have h3':¬(60<(ls.length:Int)):=by omega
 have hw:∀i:Nat,i<100→IntKind.i64.wrap ((i:Int)+1)=((i+1:Nat):Int):=fun i g=>by rw[Aj (by omega) (by omega)];omega
 simp +contextual (maxSteps:=4000000) only[↓bdD,bdP,Nat.reduceLT,Nat.reduceBEq,Nat.reduceAdd,st0,↓reduceIte,e_house,Try.f67,ty3,BE,Au,h1,h2,h3']
 refine AA [2,5,6,25,26,27,28,29,30,31,32,33,34,35,36,37,38,39,40,41,42,43,44,45,46,47,48,49,50,51,52,53,54,55,56,57,58,59,60,61,62,63,64,65,66,67,68,69,70,71,72,73,74,75,76,77,78] ls.length (fun k ρ st'=>ρ 25=I k∧ckT hn ls k=0) (.refl _) ?_ ?_
 ·simp +contextual (maxSteps:=4000000) only[↓bdD,bdP,ckT]
 ·rintro k ρ ⟨ob,M⟩ hk ⟨h25,hc⟩
  by_cases hlt:k<ls.length
  ·have hstep:ckT hn ls (k+1)=JM hn (ls.getD k dL):=by simp only[ckT,hc,ne_eq,not_true_eq_false,if_false]
   have hk64:k<100:=by omega
   have hw1:=hw k hk64
   by_cases hb:hOK hn (ls.getD k dL).1=false∨hOK hn (ls.getD k dL).2.1=false∨(ls.getD k dL).1=(ls.getD k dL).2.1
   ·have hb1:JM hn (ls.getD k dL)=1:=by unfold JM;rw[if_pos hb]
    rw [hb1]at hstep
    have hend:=Lx (m:=ls.length) (by rw[hstep];decide) (show k+1≤ls.length by omega)
    rw [hend,hstep]at hr
    subst hr
    cases g1:hOK hn (ls.getD k dL).1
    ·simp +contextual (maxSteps:=4000000) only[↓bdD,bdP,Nat.reduceLT,Nat.reduceBEq,Ag,Nat.reduceAdd,Nat.reduceLeDiff,Store.new,Store.set,↓reduceIte,Ly,Bs,Ab,BO,EV,CI,ty3,BE,Ck,h25,hlt,g1]
    cases g2:hOK hn (ls.getD k dL).2.1
    ·simp +contextual (maxSteps:=4000000) only[↓bdD,bdP,Nat.reduceLT,Nat.reduceBEq,Ag,Nat.reduceAdd,Nat.reduceLeDiff,Store.new,Store.set,↓reduceIte,Ly,Bs,Ab,BO,EV,IA,CI,ty3,BE,Ck,h25,hlt,g1,g2]
    have g3:(ls.getD k dL).1=(ls.getD k dL).2.1:=by
     rcases hb with hb | hb | hb
     ·rw [g1]at hb;cases hb
     ·rw [g2]at hb;cases hb
     ·exact hb
    simp +contextual (maxSteps:=4000000) only[↓bdD,bdP,Nat.reduceLT,Nat.reduceBEq,Ag,Nat.reduceAdd,Nat.reduceLeDiff,Store.new,Store.set,↓reduceIte,Ly,Bs,Ab,BO,EV,IA,CI,ty3,BE,Ck,h25,hlt,g2,g3]
   ·have g1:hOK hn (ls.getD k dL).1=true:=by cases g:hOK hn (ls.getD k dL).1;exact absurd (.inl g) hb;rfl
    have g2:hOK hn (ls.getD k dL).2.1=true:=by cases g:hOK hn (ls.getD k dL).2.1;exact absurd (.inr (.inl g)) hb;rfl
    have g3:¬(ls.getD k dL).1=(ls.getD k dL).2.1:=fun g=>hb (.inr (.inr g))
    have hb3:JM hn (ls.getD k dL)=if EF (ls.getD k dL) 24=true then 3 else 0:=by unfold JM;rw[if_neg hb]
    rw [hb3]at hstep
    generalize hx:ls.getD k dL=x at *
    simp +contextual (maxSteps:=4000000) only[↓bdD,bdP,Nat.reduceLT,Nat.reduceBEq,Nat.reduceAdd,Nat.reduceLeDiff,Store.new,Store.set,↓reduceIte,Ly,Bs,Ab,BO,EV,IA,CI,ty3,BE,Ck,h25,hlt,g1,g2,g3,hx]
    refine AA [2,6,48,49,50,51,52,53,54,55,56,57,58,59,60,61,62,63,64,65,66,67,68,69,70,71,72,73,74,75,76,77] 24 (fun h ρ st'=>ρ 48=I h∧EF x h=false∧st'.obj M=some (.arr 0 50 [.agg (lkC x)])) (.refl _) ?_ ?_
    ·simp +contextual (maxSteps:=4000000) only[↓bdD,bdP,EF]
    ·rintro h ρ2 ⟨ob2,M2⟩ hh ⟨h48,hbh,hM⟩
     dsimp only at hM
     by_cases hh24:h<24
     ·have hw2:=hw h (by omega)
      have hi24:(h:Int)<24:=by omega
      have hbs:EF x (h+1)=decide (DL x h<0∨1073741824<DL x h∨El x h<0∨1000000<El x h):=by simp only[EF,hbh,Bool.false_or]
      by_cases hbad:DL x h<0∨1073741824<DL x h∨El x h<0∨1000000<El x h
      ·have he:EF x 24=true:=SJ (k:=h+1) (by rw[hbs];exact decide_eq_true hbad) (by omega)
       rw [if_pos he]at hstep
       have hend:=Lx (m:=ls.length) (by rw[hstep];decide) (show k+1≤ls.length by omega)
       rw [hend,hstep]at hr
       subst hr
       by_cases c1:DL x h<0
       ·simp +contextual (maxSteps:=4000000) only[↓bdD,bdP,Nat.reduceLT,Nat.reduceBEq,Ag,Nat.reduceAdd,↓reduceIte,CD,Nat.mul_one,ty3,Ii,Ck,h48,hM,hh24,hi24,c1]
       by_cases c2:1073741824<DL x h
       ·simp +contextual (maxSteps:=4000000) only[↓bdD,bdP,Nat.reduceLT,Nat.reduceBEq,Ag,Nat.reduceAdd,↓reduceIte,CD,Nat.mul_one,ty3,Ii,Ck,h48,hM,hh24,hi24,c1,c2]
       by_cases c3:El x h<0
       ·simp +contextual (maxSteps:=4000000) only[↓bdD,bdP,Nat.reduceLT,Nat.reduceBEq,Ag,Nat.reduceAdd,↓reduceIte,CD,Ee,Nat.mul_one,ty3,Ii,Ck,h48,hM,hh24,hi24,c1,c2,c3]
       have c4:1000000<El x h:=by omega
       simp +contextual (maxSteps:=4000000) only[↓bdD,bdP,Nat.reduceLT,Nat.reduceBEq,Ag,Nat.reduceAdd,↓reduceIte,CD,Ee,Nat.mul_one,ty3,Ii,Ck,h48,hM,hh24,hi24,c1,c2,c3,c4]
      ·rw [decide_eq_false hbad]at hbs
       have c1:¬DL x h<0:=by omega
       have c2:¬1073741824<DL x h:=by omega
       have c3:¬El x h<0:=by omega
       have c4:¬1000000<El x h:=by omega
       simp +contextual (maxSteps:=4000000) only[↓bdD,bdP,Nat.reduceLT,Nat.reduceBEq,Nat.reduceAdd,↓reduceIte,CD,Ee,Nat.mul_one,ty3,Ii,Ck,h48,hM,hh24,hi24,c1,c2,c3,c4,hw2,hbs]
     ·have e:h=24:=by omega
      subst e
      rw [hbh,if_neg (by simp)]at hstep
      simp +contextual (maxSteps:=4000000) only[↓bdD,bdP,Nat.reduceLT,Nat.reduceBEq,Int.reduceLT,↓reduceIte,h25,h48,hstep,hw1]
      rw [AH (by decide +kernel)];simp +contextual (maxSteps:=4000000) only[↓bdD,bdP,Nat.reduceBEq]
  ·have e:k=ls.length:=by omega
   subst e
   rw [hc]at hr
   subst hr
   simp +contextual (maxSteps:=4000000) only[↓bdD,bdP,Nat.reduceLT,Nat.reduceBEq,Ag,↓reduceIte,h25]
theorem vR:WR:=vP vQ
noncomputable def Ht:(Int)×(List Lnk)→List PV:=fun (hn,ls) => [.agg [I hn,Az ls]]
noncomputable def SQ:(Int)×(List Lnk)→PV:=fun (hn,ls)=>I (Ct hn ls)
def SR:(Int)×(List Lnk)→Prop:=fun (hn,ls)=>True
noncomputable def e_rcheck:Nat×Ent:=(70,.v (Ah Ht SQ SR))
theorem jU:∀i j,Ht i=Ht j→i=j:=by
 rintro ⟨hn₁,ls₁⟩ ⟨hn₂,ls₂⟩ h
 simp only[Ht,List.cons.injEq,and_true,PV.lits.injEq,PV.int.injEq,PV.agg.injEq,true_and,AG]at h
 simp [h] <;> omega
theorem Mx (hn:Int) (ls:List Lnk):Ah Ht SQ SR [.agg [I hn,Az ls]]=some (I (Ct hn ls)):=Ay jU (i:=(hn,ls)) trivial
def SS:Prop:=∀(hn:Int) (ls:List Lnk) ,VC Try.prog 70 [.agg [I hn,Az ls]] (I (Ct hn ls))
def ST:Prop:=AN Try.prog e_rcheck.1 e_rcheck.2
theorem jV (c:SS):ST:=At fun⟨hn,ls⟩ h=>c hn ls
theorem jW:SS:=by
 intro hn ls
 refine A5 AR (l := [e_rhouse]) ((Ae SP As)) [] []  Try.func70 rfl (by decide +kernel) (N:=85) rfl (by simp) rfl (by kernel_rfl) fun hs=>?_
 simp only[AI,PV.small,List.length_map,and_true,true_and]at hs
 generalize hr:Ct hn ls=r
 unfold Ct at hr
 by_cases h1:hn<1
 ·rw [if_pos (.inl h1)]at hr
  subst hr
  simp +contextual (maxSteps:=4000000) only[↓bdD,bdP,Nat.reduceLT,Nat.reduceBEq,Ag,Nat.reduceAdd,st0,↓reduceIte,e_rhouse,Try.f70,ty3,Au,h1]
 by_cases h2:12<hn
 ·rw [if_pos (.inr (.inl h2))]at hr
  subst hr
  simp +contextual (maxSteps:=4000000) only[↓bdD,bdP,Nat.reduceLT,Nat.reduceBEq,Ag,Nat.reduceAdd,st0,↓reduceIte,e_rhouse,Try.f70,ty3,Au,h1,h2]
 by_cases h3:60<ls.length
 ·rw [if_pos (.inr (.inr h3))]at hr
  subst hr
  have h3i:(60:Int)<(ls.length:Int):=by omega
  simp +contextual (maxSteps:=4000000) only[↓bdD,bdP,Nat.reduceLT,Nat.reduceBEq,Ag,Nat.reduceAdd,st0,↓reduceIte,e_rhouse,Try.f70,ty3,BE,Au,h1,h2,h3i]
 rw [if_neg (fun h=>h.elim h1 (fun h=>h.elim h2 h3))]at hr
 have h3':¬(60<(ls.length:Int)):=by omega
 have hw:∀i:Nat,i<100→IntKind.i64.wrap ((i:Int)+1)=((i+1:Nat):Int):=fun i g=>by rw[Aj (by omega) (by omega)];omega
 simp +contextual (maxSteps:=4000000) only[↓bdD,bdP,Nat.reduceLT,Nat.reduceBEq,Nat.reduceAdd,st0,↓reduceIte,e_rhouse,Try.f70,ty3,BE,Au,h1,h2,h3']
 refine AA [2,3,4,5,6,7,22,23,24,25,26,27,28,29,30,31,32,33,34,35,36,37,38,39,40,41,42,43,44,45,46,47,48,49,50,51,52,53,54,55,56,57,58,59,60,61,62,63,64,65,66,67,68,69,70,71,72,73,74,75,76,77,78,79,80,81,82,83,84] ls.length (fun k ρ st'=>ρ 3=I k∧ckT hn ls k=0) (.refl _) ?_ ?_
 ·simp +contextual (maxSteps:=4000000) only[↓bdD,bdP,ckT]
 ·rintro k ρ ⟨ob,M⟩ hk ⟨h3s,hc⟩
  by_cases hlt:k<ls.length
  ·have hstep:ckT hn ls (k+1)=JM hn (ls.getD k dL):=by simp only[ckT,hc,ne_eq,not_true_eq_false,if_false]
   have hk64:k<100:=by omega
   have hw1:=hw k hk64
   by_cases hb:hOK hn (ls.getD k dL).1=false∨hOK hn (ls.getD k dL).2.1=false∨(ls.getD k dL).1=(ls.getD k dL).2.1
   ·have hb1:JM hn (ls.getD k dL)=1:=by unfold JM;rw[if_pos hb]
    rw [hb1]at hstep
    have hend:=Lx (m:=ls.length) (by rw[hstep];decide) (show k+1≤ls.length by omega)
    rw [hend,hstep]at hr
    subst hr
    cases g1:hOK hn (ls.getD k dL).1
    ·simp +contextual (maxSteps:=4000000) only[↓bdD,bdP,Nat.reduceLT,Nat.reduceBEq,Ag,Nat.reduceAdd,Nat.reduceLeDiff,Store.new,Store.set,↓reduceIte,CJ,Bs,Ab,BO,EV,IA,CI,ty3,BE,Au,Ck,h3s,hlt,g1]
    cases g2:hOK hn (ls.getD k dL).2.1
    ·simp +contextual (maxSteps:=4000000) only[↓bdD,bdP,Nat.reduceLT,Nat.reduceBEq,Ag,Nat.reduceAdd,Nat.reduceLeDiff,Store.new,Store.set,↓reduceIte,CJ,Bs,Ab,BO,EV,IA,CI,ty3,BE,Au,Ck,h3s,hlt,g1,g2]
    have g3:(ls.getD k dL).1=(ls.getD k dL).2.1:=by
     rcases hb with hb | hb | hb
     ·rw [g1]at hb;cases hb
     ·rw [g2]at hb;cases hb
     ·exact hb
    simp +contextual (maxSteps:=4000000) only[↓bdD,bdP,Nat.reduceLT,Nat.reduceBEq,Ag,Nat.reduceAdd,Nat.reduceLeDiff,Store.new,Store.set,↓reduceIte,CJ,Bs,Ab,BO,EV,IA,CI,ty3,BE,Au,Ck,h3s,hlt,g2,g3]
   ·have g1:hOK hn (ls.getD k dL).1=true:=by cases g:hOK hn (ls.getD k dL).1;exact absurd (.inl g) hb;rfl
    have g2:hOK hn (ls.getD k dL).2.1=true:=by cases g:hOK hn (ls.getD k dL).2.1;exact absurd (.inr (.inl g)) hb;rfl
    have g3:¬(ls.getD k dL).1=(ls.getD k dL).2.1:=fun g=>hb (.inr (.inr g))
    have hb3:JM hn (ls.getD k dL)=if EF (ls.getD k dL) 24=true then 3 else 0:=by unfold JM;rw[if_neg hb]
    rw [hb3]at hstep
    generalize hx:ls.getD k dL=x at *
    simp +contextual (maxSteps:=4000000) only[↓bdD,bdP,Nat.reduceLT,Nat.reduceBEq,Nat.reduceAdd,Nat.reduceLeDiff,Store.new,Store.set,↓reduceIte,CJ,Bs,Ab,BO,EV,IA,CI,ty3,BE,Au,Ck,h3s,hlt,g1,g2,g3,hx]
    refine AA [2,7,55,56,57,58,59,60,61,62,63,64,65,66,67,68,69,70,71,72,73,74,75,76,77,78,79,80,81,82,83,84] 24 (fun h ρ st'=>ρ 7=I h∧EF x h=false∧st'.obj M=some (.arr 0 50 [.agg (lkC x)])) (.refl _) ?_ ?_
    ·simp +contextual (maxSteps:=4000000) only[↓bdD,bdP,EF]
    ·rintro h ρ2 ⟨ob2,M2⟩ hh ⟨h7,hbh,hM⟩
     dsimp only at hM
     by_cases hh24:h<24
     ·have hw2:=hw h (by omega)
      have hi24:(h:Int)<24:=by omega
      have hbs:EF x (h+1)=decide (DL x h<0∨1073741824<DL x h∨El x h<0∨1000000<El x h):=by simp only[EF,hbh,Bool.false_or]
      by_cases hbad:DL x h<0∨1073741824<DL x h∨El x h<0∨1000000<El x h
      ·have he:EF x 24=true:=SJ (k:=h+1) (by rw[hbs];exact decide_eq_true hbad) (by omega)
       rw [if_pos he]at hstep
       have hend:=Lx (m:=ls.length) (by rw[hstep];decide) (show k+1≤ls.length by omega)
       rw [hend,hstep]at hr
       subst hr
       by_cases c1:DL x h<0
       ·simp +contextual (maxSteps:=4000000) only[↓bdD,bdP,Nat.reduceLT,Nat.reduceBEq,Ag,Nat.reduceAdd,↓reduceIte,CD,Nat.mul_one,ty3,Ii,Ck,h7,hM,hh24,hi24,c1]
       by_cases c2:1073741824<DL x h
       ·simp +contextual (maxSteps:=4000000) only[↓bdD,bdP,Nat.reduceLT,Nat.reduceBEq,Ag,Nat.reduceAdd,↓reduceIte,CD,Nat.mul_one,ty3,Ii,Ck,h7,hM,hh24,hi24,c1,c2]
       by_cases c3:El x h<0
       ·simp +contextual (maxSteps:=4000000) only[↓bdD,bdP,Nat.reduceLT,Nat.reduceBEq,Ag,Nat.reduceAdd,↓reduceIte,CD,Ee,Nat.mul_one,ty3,Ii,Ck,h7,hM,hh24,hi24,c1,c2,c3]
       have c4:1000000<El x h:=by omega
       simp +contextual (maxSteps:=4000000) only[↓bdD,bdP,Nat.reduceLT,Nat.reduceBEq,Ag,Nat.reduceAdd,↓reduceIte,CD,Ee,Nat.mul_one,ty3,Ii,Ck,h7,hM,hh24,hi24,c1,c2,c3,c4]
      ·rw [decide_eq_false hbad]at hbs
       have c1:¬DL x h<0:=by omega
       have c2:¬1073741824<DL x h:=by omega
       have c3:¬El x h<0:=by omega
       have c4:¬1000000<El x h:=by omega
       simp +contextual (maxSteps:=4000000) only[↓bdD,bdP,Nat.reduceLT,Nat.reduceBEq,Nat.reduceAdd,↓reduceIte,CD,Ee,Nat.mul_one,ty3,Ii,Ck,h7,hM,hh24,hi24,c1,c2,c3,c4,hw2,hbs]
     ·have e:h=24:=by omega
      subst e
      rw [hbh,if_neg (by simp)]at hstep
      simp +contextual (maxSteps:=4000000) only[↓bdD,bdP,Nat.reduceLT,Nat.reduceBEq,Int.reduceLT,↓reduceIte,h3s,h7,hstep,hw1]
      rw [AH (by decide +kernel)];simp +contextual (maxSteps:=4000000) only[↓bdD,bdP,Nat.reduceBEq]
  ·have e:k=ls.length:=by omega
   subst e
   rw [hc]at hr
   subst hr
   simp +contextual (maxSteps:=4000000) only[↓bdD,bdP,Nat.reduceLT,Nat.reduceBEq,Ag,Nat.reduceAdd,↓reduceIte,BE,Au,h3s]
theorem jX:ST:=jV jW
structure OKn (hn:Int) (ls:List Lnk):Prop where
 houses : 1≤hn∧hn≤12
 len : ls.length≤60
 ends : ∀k,k<ls.length→0≤(ls.getD k dL).1∧(ls.getD k dL).1<hn∧0≤(ls.getD k dL).2.1∧(ls.getD k dL).2.1<hn∧(ls.getD k dL).1≠(ls.getD k dL).2.1
 hours : ∀k h,k<ls.length→h<24→0≤DL (ls.getD k dL) h∧DL (ls.getD k dL) h≤1073741824∧0≤El (ls.getD k dL) h∧El (ls.getD k dL) h≤1000000
theorem badH_false {a:Lnk}:∀ {k},EF a k=false↔∀h,h<k→0≤DL a h∧DL a h≤1073741824∧0≤El a h∧El a h≤1000000
 | 0=>⟨fun _ h g=>absurd g (by omega),fun _=>rfl⟩
 | k+1=>by
  have ih:=@badH_false a k
  simp only[EF,Bool.or_eq_false_iff,ih,decide_eq_false_iff_not]
  constructor
  ·rintro ⟨h1,h2⟩ h hk
   by_cases e:h=k
   ·subst e;omega
   ·exact h1 h (by omega)
  ·intro h
   have := h k (by omega)
   exact ⟨fun i hi=>h i (by omega),by omega⟩
theorem SU {hn:Int} {ls:List Lnk}:∀ {k},ckT hn ls k=0↔∀i,i<k→JM hn (ls.getD i dL)=0
 | 0=>⟨fun _ h g=>absurd g (by omega),fun _=>rfl⟩
 | k+1=>by
  have ih:=@SU hn ls k
  simp only[ckT]
  by_cases h:ckT hn ls k=0
  ·rw [if_neg (fun hn=>hn h)]
   constructor
   ·intro hb i hi
    by_cases e:i=k
    ·subst e;exact hb
    ·exact ih.1 h i (by omega)
   ·intro g;exact g k (by omega)
  ·rw [if_pos h]
   exact ⟨fun g=>absurd g h,fun g=>absurd (ih.2 fun i hi=>g i (by omega)) h⟩
theorem check_zero {hn:Int} {ls:List Lnk}:Ct hn ls=0↔OKn hn ls:=by
 unfold Ct
 split
 ·rename_i h
  refine ⟨fun h=>(by cases h),fun g=>?_⟩
  have := g.houses
  have := g.len
  omega
 ·rename_i h
  rw [SU]
  constructor
  ·intro g
   have key:∀k,k<ls.length→¬(hOK hn (ls.getD k dL).1=false∨hOK hn (ls.getD k dL).2.1=false∨(ls.getD k dL).1=(ls.getD k dL).2.1)∧EF (ls.getD k dL) 24=false:=by
    intro k hk
    have := g k hk
    unfold JM at this
    split at this
    ·cases this
    ·rename_i h1
     refine ⟨h1,?_⟩
     cases hb:EF (ls.getD k dL) 24
     ·rfl
     ·rw [hb]at this;cases this
   refine ⟨by omega,by omega,fun k hk=>?_,fun k h hk hh=>?_⟩
   ·obtain ⟨h1,_⟩:=key k hk
    simp only[hOK,decide_eq_false_iff_not]at h1
    exact ⟨by omega,by omega,by omega,by omega,by omega⟩
   ·exact badH_false.1 (key k hk).2 h hh
  ·intro g k hk
   have h1:=g.ends k hk
   have h2:EF (ls.getD k dL) 24=false:=badH_false.2 fun h hh=>g.hours k h hk hh
   unfold JM
   rw [if_neg (by simp only[hOK,decide_eq_false_iff_not];omega),h2];rfl
end Sim
