/- What functions of this seat compute, by values: contracts (lemmas of the statement's proof, under the conditions that each names). -/
import Derived.Test.YtppljhpecoeakaaQN1
set_option maxRecDepth 10000
set_option maxHeartbeats 2000000
set_option linter.unusedVariables false
set_option linter.unusedSimpArgs false
namespace Sim
open Go Go.Proofs
attribute [local congr] Ap Aq Al AC As Ar Av
def Tb (ls:List Lnk) (l:List Snd) (k:Nat):Int :=
 if (l.getD k dS).1<0∨(ls.length:Int)≤(l.getD k dS).1 then 1
 else if (l.getD k dS).2.1<0∨1000000≤(l.getD k dS).2.1∨(l.getD k dS).2.2<1∨1073741824<(l.getD k dS).2.2 then 3
 else if 0<k∧((l.getD k dS).2.1<(l.getD (k-1) dS).2.1∨((l.getD k dS).2.1=(l.getD (k-1) dS).2.1∧(l.getD k dS).1≤(l.getD (k-1) dS).1))then 1 else 0
def rgT (ls:List Lnk) (l:List Snd):Nat→Int
 | 0=>0
 | k+1=>if rgT ls l k≠0 then rgT ls l k else Tb ls l k
def AS (hn:Int) (ls:List Lnk) (l:List Snd):Int:=if Cz hn ls≠0 then Cz hn ls else if 2000<l.length then 2 else rgT ls l l.length
theorem Oz {ls:List Lnk} {l:List Snd} {k:Nat} (h:rgT ls l k≠0):∀m,rgT ls l (k+m)=rgT ls l k
 | 0=>rfl
 | m+1=>by
  have ih:=Oz h m
  show (if rgT ls l (k+m)≠0 then rgT ls l (k+m)else _)=_
  rw [ih,if_pos h]
theorem H6 {ls:List Lnk} {l:List Snd} {k m:Nat} (h:rgT ls l k≠0) (hk:k≤m):rgT ls l m=rgT ls l k:=by
 have := Oz h (m-k)
 rwa [show k+(m-k)=m by omega]at this
noncomputable def JW:(Int)×(List Lnk)×(List Snd)→List PV:=fun (hn,ls,l) => [.agg [I hn,Az ls],AB l]
noncomputable def Xb:(Int)×(List Lnk)×(List Snd)→PV:=fun (hn,ls,l)=>I (AS hn ls l)
def Xc:(Int)×(List Lnk)×(List Snd)→Prop:=fun (hn,ls,l)=>True
noncomputable def e_right:Nat×Ent:=(46,.v (Ah JW Xb Xc))
theorem xF:∀i j,JW i=JW j→i=j:=by
 rintro ⟨hn₁,ls₁,l₁⟩ ⟨hn₂,ls₂,l₂⟩ h
 simp only[JW,List.cons.injEq,and_true,PV.lits.injEq,PV.int.injEq,PV.agg.injEq,true_and,AR,AG]at h
 simp [h] <;> omega
theorem BP (hn:Int) (ls:List Lnk) (l:List Snd):Ah JW Xb Xc [.agg [I hn,Az ls],AB l]=some (I (AS hn ls l)):=AA xF (i:=(hn,ls,l)) trivial
def Xd:Prop:=∀(hn:Int) (ls:List Lnk) (l:List Snd) ,VC Try.prog 46 [.agg [I hn,Az ls],AB l] (I (AS hn ls l))
def Xe:Prop:=AM Try.prog e_right.1 e_right.2
theorem xG (c:Xd):Xe:=At fun⟨hn,ls,l⟩ h=>c hn ls l
theorem xH:Xd:=by
 intro hn ls l
 refine A5 AP (l := [e_check]) ((Ae xE Ao)) [] []  Try.func46 rfl (by decide +kernel) (N:=91) rfl (by simp) rfl (by kernel_rfl) fun hs=>?_
 simp only[AI,PV.small,List.length_map,and_true,true_and]at hs
 by_cases h:Cz hn ls=0
 case neg =>
  rw [show AS hn ls l=Cz hn ls by simp[AS,h]]
  generalize hr:Cz hn ls=r at *
  simp +contextual (maxSteps:=4000000) only[↓bdD,bdP,Nat.reduceLT,Nat.reduceBEq,Ai,Nat.reduceAdd,st0,↓reduceIte,e_check,Qv,Ab,Try.f46,Aw,h,hr]
 have hc:=check_zero.1 h
 have h60:=hc.len
 by_cases hl:2000<l.length
 ·have hli:(2000:Int)<(l.length:Int):=by omega
  rw [show AS hn ls l=2 by simp[AS,h,hl]]
  simp +contextual (maxSteps:=4000000) only[↓bdD,bdP,Nat.reduceLT,Nat.reduceBEq,Ai,Nat.reduceAdd,st0,↓reduceIte,e_check,Qv,Ab,Try.f46,Aw,AJ,h,hli]
 have hli:¬(2000:Int)<(l.length:Int):=by omega
 rw [show AS hn ls l=rgT ls l l.length by simp[AS,h,hl]]
 generalize hr:rgT ls l l.length=r
 simp +contextual (maxSteps:=4000000) only[↓bdD,bdP,Nat.reduceLT,Nat.reduceBEq,Nat.reduceAdd,st0,↓reduceIte,e_check,Qv,Ab,Try.f46,Aw,AJ,h,hli]
 refine Ax [4,6,7,18,19,20,21,22,23,24,25,26,27,28,29,30,31,32,33,34,35,36,37,38,39,40,41,42,43,44,45,46,47,48,49,50,51,52,53,54,55,56,57,58,59,60,61,62,63,64,65,66,67,68,69,70,71,72,73,74,75,76,77,78,79,80,81,82,83,84,85,86,87,88,89,90] l.length (fun k ρ st'=>ρ 18=I k∧rgT ls l k=0) (.refl _) ?_ ?_
 ·simp +contextual (maxSteps:=4000000) only[↓bdD,bdP,rgT]
 ·rintro k ρ ⟨ob,M⟩ hk ⟨h18,hz⟩
  by_cases hlt:k<l.length
  ·have hstep:rgT ls l (k+1)=Tb ls l k:=by simp only[rgT,hz,ne_eq,not_true_eq_false,if_false]
   have hw1:IntKind.i64.wrap ((k:Int)+1)=((k+1:Nat):Int):=by rw[Ag (by omega) (by omega)];omega
   unfold Tb at hstep
   generalize hx:l.getD k dS=x at *
   by_cases e1:x.1<0∨(ls.length:Int)≤x.1
   ·rw [if_pos e1]at hstep
    have hend:=H6 (m:=l.length) (by rw[hstep];decide) (show k+1≤l.length by omega)
    rw [hend,hstep]at hr
    subst hr
    have e:x.1<0∨(¬x.1<0∧(ls.length:Int)≤x.1):=by omega
    rcases e with e | e
    ·simp +contextual (maxSteps:=4000000) only[↓bdD,bdP,Nat.reduceLT,Nat.reduceBEq,Ai,Nat.reduceAdd,Store.new,Store.set,↓reduceIte,AH,ty3,AJ,BU,h18,hlt,hx,e]
    ·simp +contextual (maxSteps:=4000000) only[↓bdD,bdP,Nat.reduceLT,Nat.reduceBEq,Ai,Nat.reduceAdd,Store.new,Store.set,↓reduceIte,AH,ty3,By,Aw,AJ,BU,h18,hlt,hx,e]
   ·rw [if_neg e1]at hstep
    by_cases e2:x.2.1<0∨1000000≤x.2.1∨x.2.2<1∨1073741824<x.2.2
    ·rw [if_pos e2]at hstep
     have hend:=H6 (m:=l.length) (by rw[hstep];decide) (show k+1≤l.length by omega)
     rw [hend,hstep]at hr
     subst hr
     have e:(¬x.1<0∧¬(ls.length:Int)≤x.1∧x.2.1<0)∨(¬x.1<0∧¬(ls.length:Int)≤x.1∧¬x.2.1<0∧1000000≤x.2.1)∨(¬x.1<0∧¬(ls.length:Int)≤x.1∧¬x.2.1<0∧¬1000000≤x.2.1∧x.2.2<1)∨(¬x.1<0∧¬(ls.length:Int)≤x.1∧¬x.2.1<0∧¬1000000≤x.2.1∧¬x.2.2<1∧1073741824<x.2.2):=by omega
     rcases e with e | e | e | e
     ·simp +contextual (maxSteps:=4000000) only[↓bdD,bdP,Nat.reduceLT,Nat.reduceBEq,Ai,Nat.reduceAdd,Store.new,Store.set,↓reduceIte,AH,ty3,By,Aw,AJ,BU,h18,hlt,hx,e]
     ·simp +contextual (maxSteps:=4000000) only[↓bdD,bdP,Nat.reduceLT,Nat.reduceBEq,Ai,Nat.reduceAdd,Store.new,Store.set,↓reduceIte,AH,ty3,By,Aw,AJ,BU,h18,hlt,hx,e]
     ·simp +contextual (maxSteps:=4000000) only[↓bdD,bdP,Nat.reduceLT,Nat.reduceBEq,Ai,Nat.reduceAdd,Store.new,Store.set,↓reduceIte,AH,ty3,By,Aw,AJ,BU,h18,hlt,hx,e]
     ·simp +contextual (maxSteps:=4000000) only[↓bdD,bdP,Nat.reduceLT,Nat.reduceBEq,Ai,Nat.reduceAdd,Store.new,Store.set,↓reduceIte,AH,ty3,By,Aw,AJ,BU,h18,hlt,hx,e]
    ·rw [if_neg e2]at hstep
     have e:¬x.1<0∧¬(ls.length:Int)≤x.1∧¬x.2.1<0∧¬1000000≤x.2.1∧¬x.2.2<1∧¬1073741824<x.2.2:=by omega
     by_cases h0:0<k
     case neg =>
      rw [if_neg (fun g=>h0 g.1)]at hstep
      have h0i:¬(0:Int)<(k:Int):=by omega
      simp +contextual (maxSteps:=4000000) only[↓bdD,bdP,Nat.reduceLT,Nat.reduceBEq,Nat.reduceAdd,Store.new,Store.set,↓reduceIte,AH,ty3,By,Aw,AJ,BU,h18,hlt,hx,e,h0i,hw1,hstep]
     have h0i:(0:Int)<(k:Int):=by omega
     have hwm:IntKind.i64.wrap ((k:Int)-1)=((k-1:Nat):Int):=by rw[Ag (by omega) (by omega)];omega
     have hltm:k-1<l.length:=by omega
     generalize hy:l.getD (k-1) dS=y at *
     by_cases e3:x.2.1<y.2.1∨(x.2.1=y.2.1∧x.1≤y.1)
     ·rw [if_pos ⟨h0,e3⟩]at hstep
      have hend:=H6 (m:=l.length) (by rw[hstep];decide) (show k+1≤l.length by omega)
      rw [hend,hstep]at hr
      subst hr
      have e':x.2.1<y.2.1∨(¬x.2.1<y.2.1∧x.2.1=y.2.1∧x.1≤y.1∧¬y.2.1<0∧¬1000000≤y.2.1∧¬y.2.1<y.2.1):=by omega
      rcases e' with e' | e'
      ·simp +contextual (maxSteps:=4000000) only[↓bdD,bdP,Nat.reduceLT,Nat.reduceBEq,Ai,Nat.reduceAdd,Store.new,Store.set,↓reduceIte,AH,ty3,By,Aw,AJ,BU,h18,hlt,hx,e,h0i,hwm,hltm,hy,e']
      ·simp +contextual (maxSteps:=4000000) only[↓bdD,bdP,Nat.reduceLT,Nat.reduceBEq,Ai,Nat.reduceAdd,Store.new,Store.set,↓reduceIte,AH,ty3,By,Aw,AJ,BU,h18,hlt,hx,e,h0i,hwm,hltm,hy,e']
     ·rw [if_neg (fun g=>e3 g.2)]at hstep
      have e':(¬x.2.1<y.2.1∧¬x.2.1=y.2.1∧¬y.2.1=x.2.1)∨(¬x.2.1<y.2.1∧x.2.1=y.2.1∧¬x.1≤y.1∧¬y.2.1<0∧¬1000000≤y.2.1∧¬y.2.1<y.2.1):=by omega
      rcases e' with e' | e'
      ·simp +contextual (maxSteps:=4000000) only[↓bdD,bdP,Nat.reduceLT,Nat.reduceBEq,Nat.reduceAdd,Store.new,Store.set,↓reduceIte,AH,ty3,By,Aw,AJ,BU,h18,hlt,hx,e,h0i,hwm,hltm,hy,e',hw1,hstep]
      ·simp +contextual (maxSteps:=4000000) only[↓bdD,bdP,Nat.reduceLT,Nat.reduceBEq,Nat.reduceAdd,Store.new,Store.set,↓reduceIte,AH,ty3,By,Aw,AJ,BU,h18,hlt,hx,e,h0i,hwm,hltm,hy,e',hw1,hstep]
  ·have e:k=l.length:=by omega
   subst e
   rw [hz]at hr
   subst hr
   simp +contextual (maxSteps:=4000000) only[↓bdD,bdP,Nat.reduceLT,Nat.reduceBEq,Ai,↓reduceIte,h18]
theorem JX:Xe:=xG xH
noncomputable def Hy:(Int)×(List Lnk)×(List Snd)→List PV:=fun (hn,ls,l) => [.agg [I hn,Az ls],AB l]
noncomputable def Tc:(Int)×(List Lnk)×(List Snd)→PV:=fun (hn,ls,l)=>I (AS hn ls l)
def Td:(Int)×(List Lnk)×(List Snd)→Prop:=fun (hn,ls,l)=>True
noncomputable def e_rright:Nat×Ent:=(55,.v (Ah Hy Tc Td))
theorem lC:∀i j,Hy i=Hy j→i=j:=by
 rintro ⟨hn₁,ls₁,l₁⟩ ⟨hn₂,ls₂,l₂⟩ h
 simp only[Hy,List.cons.injEq,and_true,PV.lits.injEq,PV.int.injEq,PV.agg.injEq,true_and,AR,AG]at h
 simp [h] <;> omega
theorem Fe (hn:Int) (ls:List Lnk) (l:List Snd):Ah Hy Tc Td [.agg [I hn,Az ls],AB l]=some (I (AS hn ls l)):=AA lC (i:=(hn,ls,l)) trivial
def Te:Prop:=∀(hn:Int) (ls:List Lnk) (l:List Snd) ,VC Try.prog 55 [.agg [I hn,Az ls],AB l] (I (AS hn ls l))
def Tf:Prop:=AM Try.prog e_rright.1 e_rright.2
theorem lE (c:Te):Tf:=At fun⟨hn,ls,l⟩ h=>c hn ls l
theorem lF:Te:=by
 intro hn ls l
 refine A5 AP (l := [e_rcheck]) ((Ae lB Ao)) [] []  Try.func55 rfl (by decide +kernel) (N:=90) rfl (by simp) rfl (by kernel_rfl) fun hs=>?_
 simp only[AI,PV.small,List.length_map,and_true,true_and]at hs
 by_cases h:Cz hn ls=0
 case neg =>
  rw [show AS hn ls l=Cz hn ls by simp[AS,h]]
  generalize hr:Cz hn ls=r at *
  simp +contextual (maxSteps:=4000000) only[↓bdD,bdP,Nat.reduceLT,Nat.reduceBEq,Ai,Nat.reduceAdd,st0,↓reduceIte,e_rcheck,ME,Ab,Try.f55,Aw,h,hr]
 have hc:=check_zero.1 h
 have h60:=hc.len
 by_cases hl:2000<l.length
 ·have hli:(2000:Int)<(l.length:Int):=by omega
  rw [show AS hn ls l=2 by simp[AS,h,hl]]
  simp +contextual (maxSteps:=4000000) only[↓bdD,bdP,Nat.reduceLT,Nat.reduceBEq,Ai,Nat.reduceAdd,st0,↓reduceIte,e_rcheck,ME,Ab,Try.f55,Aw,AJ,h,hli]
 have hli:¬(2000:Int)<(l.length:Int):=by omega
 rw [show AS hn ls l=rgT ls l l.length by simp[AS,h,hl]]
 generalize hr:rgT ls l l.length=r
 simp +contextual (maxSteps:=4000000) only[↓bdD,bdP,Nat.reduceLT,Nat.reduceBEq,Nat.reduceAdd,st0,↓reduceIte,e_rcheck,ME,Ab,Try.f55,Aw,AJ,h,hli]
 refine Ax [4,6,7,16,17,18,19,20,21,22,23,24,25,26,27,28,29,30,31,32,33,34,35,36,37,38,39,40,41,42,43,44,45,46,47,48,49,50,51,52,53,54,55,56,57,58,59,60,61,62,63,64,65,66,67,68,69,70,71,72,73,74,75,76,77,78,79,80,81,82,83,84,85,86,87,88,89] l.length (fun k ρ st'=>ρ 6=I k∧rgT ls l k=0) (.refl _) ?_ ?_
 ·simp +contextual (maxSteps:=4000000) only[↓bdD,bdP,rgT]
 ·rintro k ρ ⟨ob,M⟩ hk ⟨h6,hz⟩
  by_cases hlt:k<l.length
  ·have hstep:rgT ls l (k+1)=Tb ls l k:=by simp only[rgT,hz,ne_eq,not_true_eq_false,if_false]
   have hw1:IntKind.i64.wrap ((k:Int)+1)=((k+1:Nat):Int):=by rw[Ag (by omega) (by omega)];omega
   unfold Tb at hstep
   generalize hx:l.getD k dS=x at *
   by_cases e1:x.1<0∨(ls.length:Int)≤x.1
   ·rw [if_pos e1]at hstep
    have hend:=H6 (m:=l.length) (by rw[hstep];decide) (show k+1≤l.length by omega)
    rw [hend,hstep]at hr
    subst hr
    have e:x.1<0∨(¬x.1<0∧(ls.length:Int)≤x.1):=by omega
    rcases e with e | e
    ·simp +contextual (maxSteps:=4000000) only[↓bdD,bdP,Nat.reduceLT,Nat.reduceBEq,Ai,Nat.reduceAdd,Store.new,Store.set,↓reduceIte,AH,ty3,AJ,BU,h6,hlt,hx,e]
    ·simp +contextual (maxSteps:=4000000) only[↓bdD,bdP,Nat.reduceLT,Nat.reduceBEq,Ai,Nat.reduceAdd,Store.new,Store.set,↓reduceIte,AH,ty3,By,Aw,AJ,BU,h6,hlt,hx,e]
   ·rw [if_neg e1]at hstep
    by_cases e2:x.2.1<0∨1000000≤x.2.1∨x.2.2<1∨1073741824<x.2.2
    ·rw [if_pos e2]at hstep
     have hend:=H6 (m:=l.length) (by rw[hstep];decide) (show k+1≤l.length by omega)
     rw [hend,hstep]at hr
     subst hr
     have e:(¬x.1<0∧¬(ls.length:Int)≤x.1∧x.2.1<0)∨(¬x.1<0∧¬(ls.length:Int)≤x.1∧¬x.2.1<0∧1000000≤x.2.1)∨(¬x.1<0∧¬(ls.length:Int)≤x.1∧¬x.2.1<0∧¬1000000≤x.2.1∧x.2.2<1)∨(¬x.1<0∧¬(ls.length:Int)≤x.1∧¬x.2.1<0∧¬1000000≤x.2.1∧¬x.2.2<1∧1073741824<x.2.2):=by omega
     rcases e with e | e | e | e
     ·simp +contextual (maxSteps:=4000000) only[↓bdD,bdP,Nat.reduceLT,Nat.reduceBEq,Ai,Nat.reduceAdd,Store.new,Store.set,↓reduceIte,AH,ty3,By,Aw,AJ,BU,h6,hlt,hx,e]
     ·simp +contextual (maxSteps:=4000000) only[↓bdD,bdP,Nat.reduceLT,Nat.reduceBEq,Ai,Nat.reduceAdd,Store.new,Store.set,↓reduceIte,AH,ty3,By,Aw,AJ,BU,h6,hlt,hx,e]
     ·simp +contextual (maxSteps:=4000000) only[↓bdD,bdP,Nat.reduceLT,Nat.reduceBEq,Ai,Nat.reduceAdd,Store.new,Store.set,↓reduceIte,AH,ty3,By,Aw,AJ,BU,h6,hlt,hx,e]
     ·simp +contextual (maxSteps:=4000000) only[↓bdD,bdP,Nat.reduceLT,Nat.reduceBEq,Ai,Nat.reduceAdd,Store.new,Store.set,↓reduceIte,AH,ty3,By,Aw,AJ,BU,h6,hlt,hx,e]
    ·rw [if_neg e2]at hstep
     have e:¬x.1<0∧¬(ls.length:Int)≤x.1∧¬x.2.1<0∧¬1000000≤x.2.1∧¬x.2.2<1∧¬1073741824<x.2.2:=by omega
     by_cases h0:0<k
     case neg =>
      rw [if_neg (fun g=>h0 g.1)]at hstep
      have h0i:¬(0:Int)<(k:Int):=by omega
      simp +contextual (maxSteps:=4000000) only[↓bdD,bdP,Nat.reduceLT,Nat.reduceBEq,Nat.reduceAdd,Store.new,Store.set,↓reduceIte,AH,ty3,By,Aw,AJ,BU,h6,hlt,hx,e,h0i,hw1,hstep]
     have h0i:(0:Int)<(k:Int):=by omega
     have hwm:IntKind.i64.wrap ((k:Int)-1)=((k-1:Nat):Int):=by rw[Ag (by omega) (by omega)];omega
     have hltm:k-1<l.length:=by omega
     generalize hy:l.getD (k-1) dS=y at *
     by_cases e3:x.2.1<y.2.1∨(x.2.1=y.2.1∧x.1≤y.1)
     ·rw [if_pos ⟨h0,e3⟩]at hstep
      have hend:=H6 (m:=l.length) (by rw[hstep];decide) (show k+1≤l.length by omega)
      rw [hend,hstep]at hr
      subst hr
      have e':x.2.1<y.2.1∨(¬x.2.1<y.2.1∧x.2.1=y.2.1∧x.1≤y.1∧¬y.2.1<0∧¬1000000≤y.2.1∧¬y.2.1<y.2.1):=by omega
      rcases e' with e' | e'
      ·simp +contextual (maxSteps:=4000000) only[↓bdD,bdP,Nat.reduceLT,Nat.reduceBEq,Ai,Nat.reduceAdd,Store.new,Store.set,↓reduceIte,AH,ty3,By,Aw,AJ,BU,h6,hlt,hx,e,h0i,hwm,hltm,hy,e']
      ·simp +contextual (maxSteps:=4000000) only[↓bdD,bdP,Nat.reduceLT,Nat.reduceBEq,Ai,Nat.reduceAdd,Store.new,Store.set,↓reduceIte,AH,ty3,By,Aw,AJ,BU,h6,hlt,hx,e,h0i,hwm,hltm,hy,e']
     ·rw [if_neg (fun g=>e3 g.2)]at hstep
      have e':(¬x.2.1<y.2.1∧¬x.2.1=y.2.1∧¬y.2.1=x.2.1)∨(¬x.2.1<y.2.1∧x.2.1=y.2.1∧¬x.1≤y.1∧¬y.2.1<0∧¬1000000≤y.2.1∧¬y.2.1<y.2.1):=by omega
      rcases e' with e' | e'
      ·simp +contextual (maxSteps:=4000000) only[↓bdD,bdP,Nat.reduceLT,Nat.reduceBEq,Nat.reduceAdd,Store.new,Store.set,↓reduceIte,AH,ty3,By,Aw,AJ,BU,h6,hlt,hx,e,h0i,hwm,hltm,hy,e',hw1,hstep]
      ·simp +contextual (maxSteps:=4000000) only[↓bdD,bdP,Nat.reduceLT,Nat.reduceBEq,Nat.reduceAdd,Store.new,Store.set,↓reduceIte,AH,ty3,By,Aw,AJ,BU,h6,hlt,hx,e,h0i,hwm,hltm,hy,e',hw1,hstep]
  ·have e:k=l.length:=by omega
   subst e
   rw [hz]at hr
   subst hr
   simp +contextual (maxSteps:=4000000) only[↓bdD,bdP,Nat.reduceLT,Nat.reduceBEq,Ai,Nat.reduceAdd,↓reduceIte,AJ,h6]
theorem Tg:Tf:=lE lF
end Sim
