/- What functions of this seat compute, by values: contracts (lemmas of the statement's proof, under the conditions that each names). -/
import Derived.Test.YtppljhpecoeakaaQN1
set_option maxRecDepth 10000
set_option maxHeartbeats 2000000
set_option linter.unusedVariables false
set_option linter.unusedSimpArgs false
namespace Sim
open Go Go.Proofs
attribute [local congr] Aq Ar Al AG At As Az
def TD (ls:List Lnk) (l:List Snd) (k:Nat):Int :=
 if (l.getD k dS).1<0∨(ls.length:Int)≤(l.getD k dS).1 then 1
 else if (l.getD k dS).2.1<0∨1000000≤(l.getD k dS).2.1∨(l.getD k dS).2.2<1∨1073741824<(l.getD k dS).2.2 then 3
 else if 0<k∧((l.getD k dS).2.1<(l.getD (k-1) dS).2.1∨((l.getD k dS).2.1=(l.getD (k-1) dS).2.1∧(l.getD k dS).1≤(l.getD (k-1) dS).1))then 1 else 0
def rgT (ls:List Lnk) (l:List Snd):Nat→Int
 | 0=>0
 | k+1=>if rgT ls l k≠0 then rgT ls l k else TD ls l k
def AN (hn:Int) (ls:List Lnk) (l:List Snd):Int:=if Cx hn ls≠0 then Cx hn ls else if 2000<l.length then 2 else rgT ls l l.length
theorem OO {ls:List Lnk} {l:List Snd} {k:Nat} (h:rgT ls l k≠0):∀m,rgT ls l (k+m)=rgT ls l k
 | 0=>rfl
 | m+1=>by
  have ih:=OO h m
  show (if rgT ls l (k+m)≠0 then rgT ls l (k+m)else _)=_
  rw [ih,if_pos h]
theorem Ic {ls:List Lnk} {l:List Snd} {k m:Nat} (h:rgT ls l k≠0) (hk:k≤m):rgT ls l m=rgT ls l k:=by
 have := OO h (m-k)
 rwa [show k+(m-k)=m by omega]at this
noncomputable def J2:(Int)×(List Lnk)×(List Snd)→List PV:=fun (hn,ls,l) => [.agg [I hn,Ax ls],Av l]
noncomputable def XC:(Int)×(List Lnk)×(List Snd)→PV:=fun (hn,ls,l)=>I (AN hn ls l)
def XD:(Int)×(List Lnk)×(List Snd)→Prop:=fun (hn,ls,l)=>True
noncomputable def e_right:Nat×Ent:=(46,.v (Ah J2 XC XD))
theorem yK:∀i j,J2 i=J2 j→i=j:=by
 rintro ⟨hn₁,ls₁,l₁⟩ ⟨hn₂,ls₂,l₂⟩ h
 simp only[J2,List.cons.injEq,and_true,PV.lits.injEq,PV.int.injEq,PV.agg.injEq,true_and,AM,AF]at h
 simp [h] <;> omega
theorem BZ (hn:Int) (ls:List Lnk) (l:List Snd):Ah J2 XC XD [.agg [I hn,Ax ls],Av l]=some (I (AN hn ls l)):=AC yK (i:=(hn,ls,l)) trivial
def XE:Prop:=∀(hn:Int) (ls:List Lnk) (l:List Snd) ,VC Try.prog 46 [.agg [I hn,Ax ls],Av l] (I (AN hn ls l))
def XF:Prop:=AL Try.prog e_right.1 e_right.2
theorem yL (c:XE):XF:=Ap fun⟨hn,ls,l⟩ h=>c hn ls l
theorem yM:XE:=by
 intro hn ls l
 refine A3 AP (l := [e_check]) ((Ad yJ An)) [] []  Try.func46 rfl (by decide +kernel) (N:=91) rfl (by simp) rfl (by kernel_rfl) fun hs=>?_
 simp only[AJ,PV.small,List.length_map,and_true,true_and]at hs
 by_cases h:Cx hn ls=0
 case neg =>
  rw [show AN hn ls l=Cx hn ls by simp[AN,h]]
  generalize hr:Cx hn ls=r at *
  simp +contextual (maxSteps:=4000000) only[↓bdD,bdP,Nat.reduceLT,Nat.reduceBEq,Ai,Nat.reduceAdd,st0,↓reduceIte,e_check,QT,Ab,Try.f46,Au,h,hr]
 have hc:=check_zero.1 h
 have h60:=hc.len
 by_cases hl:2000<l.length
 ·have hli:(2000:Int)<(l.length:Int):=by omega
  rw [show AN hn ls l=2 by simp[AN,h,hl]]
  simp +contextual (maxSteps:=4000000) only[↓bdD,bdP,Nat.reduceLT,Nat.reduceBEq,Ai,Nat.reduceAdd,st0,↓reduceIte,e_check,QT,Ab,Try.f46,Au,AB,h,hli]
 have hli:¬(2000:Int)<(l.length:Int):=by omega
 rw [show AN hn ls l=rgT ls l l.length by simp[AN,h,hl]]
 generalize hr:rgT ls l l.length=r
 simp +contextual (maxSteps:=4000000) only[↓bdD,bdP,Nat.reduceLT,Nat.reduceBEq,Nat.reduceAdd,st0,↓reduceIte,e_check,QT,Ab,Try.f46,Au,AB,h,hli]
 refine Ay [4,6,7,18,19,20,21,22,23,24,25,26,27,28,29,30,31,32,33,34,35,36,37,38,39,40,41,42,43,44,45,46,47,48,49,50,51,52,53,54,55,56,57,58,59,60,61,62,63,64,65,66,67,68,69,70,71,72,73,74,75,76,77,78,79,80,81,82,83,84,85,86,87,88,89,90] l.length (fun k ρ st'=>ρ 18=I k∧rgT ls l k=0) (.refl _) ?_ ?_
 ·simp +contextual (maxSteps:=4000000) only[↓bdD,bdP,rgT]
 ·rintro k ρ ⟨ob,M⟩ hk ⟨h18,hz⟩
  by_cases hlt:k<l.length
  ·have hstep:rgT ls l (k+1)=TD ls l k:=by simp only[rgT,hz,ne_eq,not_true_eq_false,if_false]
   have hw1:IntKind.i64.wrap ((k:Int)+1)=((k+1:Nat):Int):=by rw[Aj (by omega) (by omega)];omega
   unfold TD at hstep
   generalize hx:l.getD k dS=x at *
   by_cases e1:x.1<0∨(ls.length:Int)≤x.1
   ·rw [if_pos e1]at hstep
    have hend:=Ic (m:=l.length) (by rw[hstep];decide) (show k+1≤l.length by omega)
    rw [hend,hstep]at hr
    subst hr
    have e:x.1<0∨(¬x.1<0∧(ls.length:Int)≤x.1):=by omega
    rcases e with e | e
    ·simp +contextual (maxSteps:=4000000) only[↓bdD,bdP,Nat.reduceLT,Nat.reduceBEq,Ai,Nat.reduceAdd,Store.new,Store.set,↓reduceIte,Aw,ty3,AB,Bv,h18,hlt,hx,e]
    ·simp +contextual (maxSteps:=4000000) only[↓bdD,bdP,Nat.reduceLT,Nat.reduceBEq,Ai,Nat.reduceAdd,Store.new,Store.set,↓reduceIte,Aw,ty3,By,Au,AB,Bv,h18,hlt,hx,e]
   ·rw [if_neg e1]at hstep
    by_cases e2:x.2.1<0∨1000000≤x.2.1∨x.2.2<1∨1073741824<x.2.2
    ·rw [if_pos e2]at hstep
     have hend:=Ic (m:=l.length) (by rw[hstep];decide) (show k+1≤l.length by omega)
     rw [hend,hstep]at hr
     subst hr
     have e:(¬x.1<0∧¬(ls.length:Int)≤x.1∧x.2.1<0)∨(¬x.1<0∧¬(ls.length:Int)≤x.1∧¬x.2.1<0∧1000000≤x.2.1)∨(¬x.1<0∧¬(ls.length:Int)≤x.1∧¬x.2.1<0∧¬1000000≤x.2.1∧x.2.2<1)∨(¬x.1<0∧¬(ls.length:Int)≤x.1∧¬x.2.1<0∧¬1000000≤x.2.1∧¬x.2.2<1∧1073741824<x.2.2):=by omega
     rcases e with e | e | e | e
     ·simp +contextual (maxSteps:=4000000) only[↓bdD,bdP,Nat.reduceLT,Nat.reduceBEq,Ai,Nat.reduceAdd,Store.new,Store.set,↓reduceIte,Aw,ty3,By,Au,AB,Bv,h18,hlt,hx,e]
     ·simp +contextual (maxSteps:=4000000) only[↓bdD,bdP,Nat.reduceLT,Nat.reduceBEq,Ai,Nat.reduceAdd,Store.new,Store.set,↓reduceIte,Aw,ty3,By,Au,AB,Bv,h18,hlt,hx,e]
     ·simp +contextual (maxSteps:=4000000) only[↓bdD,bdP,Nat.reduceLT,Nat.reduceBEq,Ai,Nat.reduceAdd,Store.new,Store.set,↓reduceIte,Aw,ty3,By,Au,AB,Bv,h18,hlt,hx,e]
     ·simp +contextual (maxSteps:=4000000) only[↓bdD,bdP,Nat.reduceLT,Nat.reduceBEq,Ai,Nat.reduceAdd,Store.new,Store.set,↓reduceIte,Aw,ty3,By,Au,AB,Bv,h18,hlt,hx,e]
    ·rw [if_neg e2]at hstep
     have e:¬x.1<0∧¬(ls.length:Int)≤x.1∧¬x.2.1<0∧¬1000000≤x.2.1∧¬x.2.2<1∧¬1073741824<x.2.2:=by omega
     by_cases h0:0<k
     case neg =>
      rw [if_neg (fun g=>h0 g.1)]at hstep
      have h0i:¬(0:Int)<(k:Int):=by omega
      simp +contextual (maxSteps:=4000000) only[↓bdD,bdP,Nat.reduceLT,Nat.reduceBEq,Nat.reduceAdd,Store.new,Store.set,↓reduceIte,Aw,ty3,By,Au,AB,Bv,h18,hlt,hx,e,h0i,hw1,hstep]
     have h0i:(0:Int)<(k:Int):=by omega
     have hwm:IntKind.i64.wrap ((k:Int)-1)=((k-1:Nat):Int):=by rw[Aj (by omega) (by omega)];omega
     have hltm:k-1<l.length:=by omega
     generalize hy:l.getD (k-1) dS=y at *
     by_cases e3:x.2.1<y.2.1∨(x.2.1=y.2.1∧x.1≤y.1)
     ·rw [if_pos ⟨h0,e3⟩]at hstep
      have hend:=Ic (m:=l.length) (by rw[hstep];decide) (show k+1≤l.length by omega)
      rw [hend,hstep]at hr
      subst hr
      have e':x.2.1<y.2.1∨(¬x.2.1<y.2.1∧x.2.1=y.2.1∧x.1≤y.1∧¬y.2.1<0∧¬1000000≤y.2.1∧¬y.2.1<y.2.1):=by omega
      rcases e' with e' | e'
      ·simp +contextual (maxSteps:=4000000) only[↓bdD,bdP,Nat.reduceLT,Nat.reduceBEq,Ai,Nat.reduceAdd,Store.new,Store.set,↓reduceIte,Aw,ty3,By,Au,AB,Bv,h18,hlt,hx,e,h0i,hwm,hltm,hy,e']
      ·simp +contextual (maxSteps:=4000000) only[↓bdD,bdP,Nat.reduceLT,Nat.reduceBEq,Ai,Nat.reduceAdd,Store.new,Store.set,↓reduceIte,Aw,ty3,By,Au,AB,Bv,h18,hlt,hx,e,h0i,hwm,hltm,hy,e']
     ·rw [if_neg (fun g=>e3 g.2)]at hstep
      have e':(¬x.2.1<y.2.1∧¬x.2.1=y.2.1∧¬y.2.1=x.2.1)∨(¬x.2.1<y.2.1∧x.2.1=y.2.1∧¬x.1≤y.1∧¬y.2.1<0∧¬1000000≤y.2.1∧¬y.2.1<y.2.1):=by omega
      rcases e' with e' | e'
      ·simp +contextual (maxSteps:=4000000) only[↓bdD,bdP,Nat.reduceLT,Nat.reduceBEq,Nat.reduceAdd,Store.new,Store.set,↓reduceIte,Aw,ty3,By,Au,AB,Bv,h18,hlt,hx,e,h0i,hwm,hltm,hy,e',hw1,hstep]
      ·simp +contextual (maxSteps:=4000000) only[↓bdD,bdP,Nat.reduceLT,Nat.reduceBEq,Nat.reduceAdd,Store.new,Store.set,↓reduceIte,Aw,ty3,By,Au,AB,Bv,h18,hlt,hx,e,h0i,hwm,hltm,hy,e',hw1,hstep]
  ·have e:k=l.length:=by omega
   subst e
   rw [hz]at hr
   subst hr
   simp +contextual (maxSteps:=4000000) only[↓bdD,bdP,Nat.reduceLT,Nat.reduceBEq,Ai,↓reduceIte,h18]
theorem J3:XF:=yL yM
noncomputable def HF:(Int)×(List Lnk)×(List Snd)→List PV:=fun (hn,ls,l) => [.agg [I hn,Ax ls],Av l]
noncomputable def TE:(Int)×(List Lnk)×(List Snd)→PV:=fun (hn,ls,l)=>I (AN hn ls l)
def TF:(Int)×(List Lnk)×(List Snd)→Prop:=fun (hn,ls,l)=>True
noncomputable def e_rright:Nat×Ent:=(55,.v (Ah HF TE TF))
theorem mJ:∀i j,HF i=HF j→i=j:=by
 rintro ⟨hn₁,ls₁,l₁⟩ ⟨hn₂,ls₂,l₂⟩ h
 simp only[HF,List.cons.injEq,and_true,PV.lits.injEq,PV.int.injEq,PV.agg.injEq,true_and,AM,AF]at h
 simp [h] <;> omega
theorem Df (hn:Int) (ls:List Lnk) (l:List Snd):Ah HF TE TF [.agg [I hn,Ax ls],Av l]=some (I (AN hn ls l)):=AC mJ (i:=(hn,ls,l)) trivial
def TG:Prop:=∀(hn:Int) (ls:List Lnk) (l:List Snd) ,VC Try.prog 55 [.agg [I hn,Ax ls],Av l] (I (AN hn ls l))
def TH:Prop:=AL Try.prog e_rright.1 e_rright.2
theorem mK (c:TG):TH:=Ap fun⟨hn,ls,l⟩ h=>c hn ls l
theorem mL:TG:=by
 intro hn ls l
 refine A3 AP (l := [e_rcheck]) ((Ad mI An)) [] []  Try.func55 rfl (by decide +kernel) (N:=90) rfl (by simp) rfl (by kernel_rfl) fun hs=>?_
 simp only[AJ,PV.small,List.length_map,and_true,true_and]at hs
 by_cases h:Cx hn ls=0
 case neg =>
  rw [show AN hn ls l=Cx hn ls by simp[AN,h]]
  generalize hr:Cx hn ls=r at *
  simp +contextual (maxSteps:=4000000) only[↓bdD,bdP,Nat.reduceLT,Nat.reduceBEq,Ai,Nat.reduceAdd,st0,↓reduceIte,e_rcheck,MJ,Ab,Try.f55,Au,h,hr]
 have hc:=check_zero.1 h
 have h60:=hc.len
 by_cases hl:2000<l.length
 ·have hli:(2000:Int)<(l.length:Int):=by omega
  rw [show AN hn ls l=2 by simp[AN,h,hl]]
  simp +contextual (maxSteps:=4000000) only[↓bdD,bdP,Nat.reduceLT,Nat.reduceBEq,Ai,Nat.reduceAdd,st0,↓reduceIte,e_rcheck,MJ,Ab,Try.f55,Au,AB,h,hli]
 have hli:¬(2000:Int)<(l.length:Int):=by omega
 rw [show AN hn ls l=rgT ls l l.length by simp[AN,h,hl]]
 generalize hr:rgT ls l l.length=r
 simp +contextual (maxSteps:=4000000) only[↓bdD,bdP,Nat.reduceLT,Nat.reduceBEq,Nat.reduceAdd,st0,↓reduceIte,e_rcheck,MJ,Ab,Try.f55,Au,AB,h,hli]
 refine Ay [4,6,7,16,17,18,19,20,21,22,23,24,25,26,27,28,29,30,31,32,33,34,35,36,37,38,39,40,41,42,43,44,45,46,47,48,49,50,51,52,53,54,55,56,57,58,59,60,61,62,63,64,65,66,67,68,69,70,71,72,73,74,75,76,77,78,79,80,81,82,83,84,85,86,87,88,89] l.length (fun k ρ st'=>ρ 6=I k∧rgT ls l k=0) (.refl _) ?_ ?_
 ·simp +contextual (maxSteps:=4000000) only[↓bdD,bdP,rgT]
 ·rintro k ρ ⟨ob,M⟩ hk ⟨h6,hz⟩
  by_cases hlt:k<l.length
  ·have hstep:rgT ls l (k+1)=TD ls l k:=by simp only[rgT,hz,ne_eq,not_true_eq_false,if_false]
   have hw1:IntKind.i64.wrap ((k:Int)+1)=((k+1:Nat):Int):=by rw[Aj (by omega) (by omega)];omega
   unfold TD at hstep
   generalize hx:l.getD k dS=x at *
   by_cases e1:x.1<0∨(ls.length:Int)≤x.1
   ·rw [if_pos e1]at hstep
    have hend:=Ic (m:=l.length) (by rw[hstep];decide) (show k+1≤l.length by omega)
    rw [hend,hstep]at hr
    subst hr
    have e:x.1<0∨(¬x.1<0∧(ls.length:Int)≤x.1):=by omega
    rcases e with e | e
    ·simp +contextual (maxSteps:=4000000) only[↓bdD,bdP,Nat.reduceLT,Nat.reduceBEq,Ai,Nat.reduceAdd,Store.new,Store.set,↓reduceIte,Aw,ty3,AB,Bv,h6,hlt,hx,e]
    ·simp +contextual (maxSteps:=4000000) only[↓bdD,bdP,Nat.reduceLT,Nat.reduceBEq,Ai,Nat.reduceAdd,Store.new,Store.set,↓reduceIte,Aw,ty3,By,Au,AB,Bv,h6,hlt,hx,e]
   ·rw [if_neg e1]at hstep
    by_cases e2:x.2.1<0∨1000000≤x.2.1∨x.2.2<1∨1073741824<x.2.2
    ·rw [if_pos e2]at hstep
     have hend:=Ic (m:=l.length) (by rw[hstep];decide) (show k+1≤l.length by omega)
     rw [hend,hstep]at hr
     subst hr
     have e:(¬x.1<0∧¬(ls.length:Int)≤x.1∧x.2.1<0)∨(¬x.1<0∧¬(ls.length:Int)≤x.1∧¬x.2.1<0∧1000000≤x.2.1)∨(¬x.1<0∧¬(ls.length:Int)≤x.1∧¬x.2.1<0∧¬1000000≤x.2.1∧x.2.2<1)∨(¬x.1<0∧¬(ls.length:Int)≤x.1∧¬x.2.1<0∧¬1000000≤x.2.1∧¬x.2.2<1∧1073741824<x.2.2):=by omega
     rcases e with e | e | e | e
     ·simp +contextual (maxSteps:=4000000) only[↓bdD,bdP,Nat.reduceLT,Nat.reduceBEq,Ai,Nat.reduceAdd,Store.new,Store.set,↓reduceIte,Aw,ty3,By,Au,AB,Bv,h6,hlt,hx,e]
     ·simp +contextual (maxSteps:=4000000) only[↓bdD,bdP,Nat.reduceLT,Nat.reduceBEq,Ai,Nat.reduceAdd,Store.new,Store.set,↓reduceIte,Aw,ty3,By,Au,AB,Bv,h6,hlt,hx,e]
     ·simp +contextual (maxSteps:=4000000) only[↓bdD,bdP,Nat.reduceLT,Nat.reduceBEq,Ai,Nat.reduceAdd,Store.new,Store.set,↓reduceIte,Aw,ty3,By,Au,AB,Bv,h6,hlt,hx,e]
     ·simp +contextual (maxSteps:=4000000) only[↓bdD,bdP,Nat.reduceLT,Nat.reduceBEq,Ai,Nat.reduceAdd,Store.new,Store.set,↓reduceIte,Aw,ty3,By,Au,AB,Bv,h6,hlt,hx,e]
    ·rw [if_neg e2]at hstep
     have e:¬x.1<0∧¬(ls.length:Int)≤x.1∧¬x.2.1<0∧¬1000000≤x.2.1∧¬x.2.2<1∧¬1073741824<x.2.2:=by omega
     by_cases h0:0<k
     case neg =>
      rw [if_neg (fun g=>h0 g.1)]at hstep
      have h0i:¬(0:Int)<(k:Int):=by omega
      simp +contextual (maxSteps:=4000000) only[↓bdD,bdP,Nat.reduceLT,Nat.reduceBEq,Nat.reduceAdd,Store.new,Store.set,↓reduceIte,Aw,ty3,By,Au,AB,Bv,h6,hlt,hx,e,h0i,hw1,hstep]
     have h0i:(0:Int)<(k:Int):=by omega
     have hwm:IntKind.i64.wrap ((k:Int)-1)=((k-1:Nat):Int):=by rw[Aj (by omega) (by omega)];omega
     have hltm:k-1<l.length:=by omega
     generalize hy:l.getD (k-1) dS=y at *
     by_cases e3:x.2.1<y.2.1∨(x.2.1=y.2.1∧x.1≤y.1)
     ·rw [if_pos ⟨h0,e3⟩]at hstep
      have hend:=Ic (m:=l.length) (by rw[hstep];decide) (show k+1≤l.length by omega)
      rw [hend,hstep]at hr
      subst hr
      have e':x.2.1<y.2.1∨(¬x.2.1<y.2.1∧x.2.1=y.2.1∧x.1≤y.1∧¬y.2.1<0∧¬1000000≤y.2.1∧¬y.2.1<y.2.1):=by omega
      rcases e' with e' | e'
      ·simp +contextual (maxSteps:=4000000) only[↓bdD,bdP,Nat.reduceLT,Nat.reduceBEq,Ai,Nat.reduceAdd,Store.new,Store.set,↓reduceIte,Aw,ty3,By,Au,AB,Bv,h6,hlt,hx,e,h0i,hwm,hltm,hy,e']
      ·simp +contextual (maxSteps:=4000000) only[↓bdD,bdP,Nat.reduceLT,Nat.reduceBEq,Ai,Nat.reduceAdd,Store.new,Store.set,↓reduceIte,Aw,ty3,By,Au,AB,Bv,h6,hlt,hx,e,h0i,hwm,hltm,hy,e']
     ·rw [if_neg (fun g=>e3 g.2)]at hstep
      have e':(¬x.2.1<y.2.1∧¬x.2.1=y.2.1∧¬y.2.1=x.2.1)∨(¬x.2.1<y.2.1∧x.2.1=y.2.1∧¬x.1≤y.1∧¬y.2.1<0∧¬1000000≤y.2.1∧¬y.2.1<y.2.1):=by omega
      rcases e' with e' | e'
      ·simp +contextual (maxSteps:=4000000) only[↓bdD,bdP,Nat.reduceLT,Nat.reduceBEq,Nat.reduceAdd,Store.new,Store.set,↓reduceIte,Aw,ty3,By,Au,AB,Bv,h6,hlt,hx,e,h0i,hwm,hltm,hy,e',hw1,hstep]
      ·simp +contextual (maxSteps:=4000000) only[↓bdD,bdP,Nat.reduceLT,Nat.reduceBEq,Nat.reduceAdd,Store.new,Store.set,↓reduceIte,Aw,ty3,By,Au,AB,Bv,h6,hlt,hx,e,h0i,hwm,hltm,hy,e',hw1,hstep]
  ·have e:k=l.length:=by omega
   subst e
   rw [hz]at hr
   subst hr
   simp +contextual (maxSteps:=4000000) only[↓bdD,bdP,Nat.reduceLT,Nat.reduceBEq,Ai,Nat.reduceAdd,↓reduceIte,AB,h6]
theorem ML:TH:=mK mL
end Sim
