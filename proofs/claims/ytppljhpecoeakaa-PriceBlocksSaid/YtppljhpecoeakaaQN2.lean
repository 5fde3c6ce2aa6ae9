/- What functions of this seat compute, by values: contracts (lemmas of the statement's proof, under the conditions that each names). -/
import Derived.Test.YtppljhpecoeakaaQN1
set_option maxRecDepth 10000
set_option maxHeartbeats 2000000
set_option linter.unusedVariables false
set_option linter.unusedSimpArgs false
namespace Sim
open Go Go.Proofs
attribute [local congr] An Ao Al AC Aq Ap Av
def SV (ls:List Lnk) (l:List Snd) (k:Nat):Int :=
 if (l.getD k dS).1<0∨(ls.length:Int)≤(l.getD k dS).1 then 1
 else if (l.getD k dS).2.1<0∨1000000≤(l.getD k dS).2.1∨(l.getD k dS).2.2<1∨1073741824<(l.getD k dS).2.2 then 3
 else if 0<k∧((l.getD k dS).2.1<(l.getD (k-1) dS).2.1∨((l.getD k dS).2.1=(l.getD (k-1) dS).2.1∧(l.getD k dS).1≤(l.getD (k-1) dS).1))then 1 else 0
def rgT (ls:List Lnk) (l:List Snd):Nat→Int
 | 0=>0
 | k+1=>if rgT ls l k≠0 then rgT ls l k else SV ls l k
def AQ (hn:Int) (ls:List Lnk) (l:List Snd):Int:=if Ct hn ls≠0 then Ct hn ls else if 2000<l.length then 2 else rgT ls l l.length
theorem Om {ls:List Lnk} {l:List Snd} {k:Nat} (h:rgT ls l k≠0):∀m,rgT ls l (k+m)=rgT ls l k
 | 0=>rfl
 | m+1=>by
  have ih:=Om h m
  show (if rgT ls l (k+m)≠0 then rgT ls l (k+m)else _)=_
  rw [ih,if_pos h]
theorem H2 {ls:List Lnk} {l:List Snd} {k m:Nat} (h:rgT ls l k≠0) (hk:k≤m):rgT ls l m=rgT ls l k:=by
 have := Om h (m-k)
 rwa [show k+(m-k)=m by omega]at this
noncomputable def JP:(Int)×(List Lnk)×(List Snd)→List PV:=fun (hn,ls,l) => [.agg [I hn,Az ls],AB l]
noncomputable def WS:(Int)×(List Lnk)×(List Snd)→PV:=fun (hn,ls,l)=>I (AQ hn ls l)
def WT:(Int)×(List Lnk)×(List Snd)→Prop:=fun (hn,ls,l)=>True
noncomputable def e_right:Nat×Ent:=(46,.v (Ah JP WS WT))
theorem vS:∀i j,JP i=JP j→i=j:=by
 rintro ⟨hn₁,ls₁,l₁⟩ ⟨hn₂,ls₂,l₂⟩ h
 simp only[JP,List.cons.injEq,and_true,PV.lits.injEq,PV.int.injEq,PV.agg.injEq,true_and,AU,AG]at h
 simp [h] <;> omega
theorem BP (hn:Int) (ls:List Lnk) (l:List Snd):Ah JP WS WT [.agg [I hn,Az ls],AB l]=some (I (AQ hn ls l)):=Ay vS (i:=(hn,ls,l)) trivial
def WU:Prop:=∀(hn:Int) (ls:List Lnk) (l:List Snd) ,VC Try.prog 46 [.agg [I hn,Az ls],AB l] (I (AQ hn ls l))
def WV:Prop:=AN Try.prog e_right.1 e_right.2
theorem vT (c:WU):WV:=At fun⟨hn,ls,l⟩ h=>c hn ls l
theorem vU:WU:=by
 intro hn ls l
 refine A5 AR (l := [e_check]) ((Ae vR As)) [] []  Try.func46 rfl (by decide +kernel) (N:=91) rfl (by simp) rfl (by kernel_rfl) fun hs=>?_
 simp only[AI,PV.small,List.length_map,and_true,true_and]at hs
 by_cases h:Ct hn ls=0
 case neg =>
  rw [show AQ hn ls l=Ct hn ls by simp[AQ,h]]
  generalize hr:Ct hn ls=r at *
  simp +contextual (maxSteps:=4000000) only[↓bdD,bdP,Nat.reduceLT,Nat.reduceBEq,Ag,Nat.reduceAdd,st0,↓reduceIte,e_check,Ql,Ab,Try.f46,Au,h,hr]
 have hc:=check_zero.1 h
 have h60:=hc.len
 by_cases hl:2000<l.length
 ·have hli:(2000:Int)<(l.length:Int):=by omega
  rw [show AQ hn ls l=2 by simp[AQ,h,hl]]
  simp +contextual (maxSteps:=4000000) only[↓bdD,bdP,Nat.reduceLT,Nat.reduceBEq,Ag,Nat.reduceAdd,st0,↓reduceIte,e_check,Ql,Ab,Try.f46,Au,AF,h,hli]
 have hli:¬(2000:Int)<(l.length:Int):=by omega
 rw [show AQ hn ls l=rgT ls l l.length by simp[AQ,h,hl]]
 generalize hr:rgT ls l l.length=r
 simp +contextual (maxSteps:=4000000) only[↓bdD,bdP,Nat.reduceLT,Nat.reduceBEq,Nat.reduceAdd,st0,↓reduceIte,e_check,Ql,Ab,Try.f46,Au,AF,h,hli]
 refine AA [4,6,7,18,19,20,21,22,23,24,25,26,27,28,29,30,31,32,33,34,35,36,37,38,39,40,41,42,43,44,45,46,47,48,49,50,51,52,53,54,55,56,57,58,59,60,61,62,63,64,65,66,67,68,69,70,71,72,73,74,75,76,77,78,79,80,81,82,83,84,85,86,87,88,89,90] l.length (fun k ρ st'=>ρ 18=I k∧rgT ls l k=0) (.refl _) ?_ ?_
 ·simp +contextual (maxSteps:=4000000) only[↓bdD,bdP,rgT]
 ·rintro k ρ ⟨ob,M⟩ hk ⟨h18,hz⟩
  by_cases hlt:k<l.length
  ·have hstep:rgT ls l (k+1)=SV ls l k:=by simp only[rgT,hz,ne_eq,not_true_eq_false,if_false]
   have hw1:IntKind.i64.wrap ((k:Int)+1)=((k+1:Nat):Int):=by rw[Aj (by omega) (by omega)];omega
   unfold SV at hstep
   generalize hx:l.getD k dS=x at *
   by_cases e1:x.1<0∨(ls.length:Int)≤x.1
   ·rw [if_pos e1]at hstep
    have hend:=H2 (m:=l.length) (by rw[hstep];decide) (show k+1≤l.length by omega)
    rw [hend,hstep]at hr
    subst hr
    have e:x.1<0∨(¬x.1<0∧(ls.length:Int)≤x.1):=by omega
    rcases e with e | e
    ·simp +contextual (maxSteps:=4000000) only[↓bdD,bdP,Nat.reduceLT,Nat.reduceBEq,Ag,Nat.reduceAdd,Store.new,Store.set,↓reduceIte,AJ,ty3,AF,BZ,h18,hlt,hx,e]
    ·simp +contextual (maxSteps:=4000000) only[↓bdD,bdP,Nat.reduceLT,Nat.reduceBEq,Ag,Nat.reduceAdd,Store.new,Store.set,↓reduceIte,AJ,ty3,BE,Au,AF,BZ,h18,hlt,hx,e]
   ·rw [if_neg e1]at hstep
    by_cases e2:x.2.1<0∨1000000≤x.2.1∨x.2.2<1∨1073741824<x.2.2
    ·rw [if_pos e2]at hstep
     have hend:=H2 (m:=l.length) (by rw[hstep];decide) (show k+1≤l.length by omega)
     rw [hend,hstep]at hr
     subst hr
     have e:(¬x.1<0∧¬(ls.length:Int)≤x.1∧x.2.1<0)∨(¬x.1<0∧¬(ls.length:Int)≤x.1∧¬x.2.1<0∧1000000≤x.2.1)∨(¬x.1<0∧¬(ls.length:Int)≤x.1∧¬x.2.1<0∧¬1000000≤x.2.1∧x.2.2<1)∨(¬x.1<0∧¬(ls.length:Int)≤x.1∧¬x.2.1<0∧¬1000000≤x.2.1∧¬x.2.2<1∧1073741824<x.2.2):=by omega
     rcases e with e | e | e | e
     ·simp +contextual (maxSteps:=4000000) only[↓bdD,bdP,Nat.reduceLT,Nat.reduceBEq,Ag,Nat.reduceAdd,Store.new,Store.set,↓reduceIte,AJ,ty3,BE,Au,AF,BZ,h18,hlt,hx,e]
     ·simp +contextual (maxSteps:=4000000) only[↓bdD,bdP,Nat.reduceLT,Nat.reduceBEq,Ag,Nat.reduceAdd,Store.new,Store.set,↓reduceIte,AJ,ty3,BE,Au,AF,BZ,h18,hlt,hx,e]
     ·simp +contextual (maxSteps:=4000000) only[↓bdD,bdP,Nat.reduceLT,Nat.reduceBEq,Ag,Nat.reduceAdd,Store.new,Store.set,↓reduceIte,AJ,ty3,BE,Au,AF,BZ,h18,hlt,hx,e]
     ·simp +contextual (maxSteps:=4000000) only[↓bdD,bdP,Nat.reduceLT,Nat.reduceBEq,Ag,Nat.reduceAdd,Store.new,Store.set,↓reduceIte,AJ,ty3,BE,Au,AF,BZ,h18,hlt,hx,e]
    ·rw [if_neg e2]at hstep
     have e:¬x.1<0∧¬(ls.length:Int)≤x.1∧¬x.2.1<0∧¬1000000≤x.2.1∧¬x.2.2<1∧¬1073741824<x.2.2:=by omega
     by_cases h0:0<k
     case neg =>
      rw [if_neg (fun g=>h0 g.1)]at hstep
      have h0i:¬(0:Int)<(k:Int):=by omega
      simp +contextual (maxSteps:=4000000) only[↓bdD,bdP,Nat.reduceLT,Nat.reduceBEq,Nat.reduceAdd,Store.new,Store.set,↓reduceIte,AJ,ty3,BE,Au,AF,BZ,h18,hlt,hx,e,h0i,hw1,hstep]
     have h0i:(0:Int)<(k:Int):=by omega
     have hwm:IntKind.i64.wrap ((k:Int)-1)=((k-1:Nat):Int):=by rw[Aj (by omega) (by omega)];omega
     have hltm:k-1<l.length:=by omega
     generalize hy:l.getD (k-1) dS=y at *
     by_cases e3:x.2.1<y.2.1∨(x.2.1=y.2.1∧x.1≤y.1)
     ·rw [if_pos ⟨h0,e3⟩]at hstep
      have hend:=H2 (m:=l.length) (by rw[hstep];decide) (show k+1≤l.length by omega)
      rw [hend,hstep]at hr
      subst hr
      have e':x.2.1<y.2.1∨(¬x.2.1<y.2.1∧x.2.1=y.2.1∧x.1≤y.1∧¬y.2.1<0∧¬1000000≤y.2.1∧¬y.2.1<y.2.1):=by omega
      rcases e' with e' | e'
      ·simp +contextual (maxSteps:=4000000) only[↓bdD,bdP,Nat.reduceLT,Nat.reduceBEq,Ag,Nat.reduceAdd,Store.new,Store.set,↓reduceIte,AJ,ty3,BE,Au,AF,BZ,h18,hlt,hx,e,h0i,hwm,hltm,hy,e']
      ·simp +contextual (maxSteps:=4000000) only[↓bdD,bdP,Nat.reduceLT,Nat.reduceBEq,Ag,Nat.reduceAdd,Store.new,Store.set,↓reduceIte,AJ,ty3,BE,Au,AF,BZ,h18,hlt,hx,e,h0i,hwm,hltm,hy,e']
     ·rw [if_neg (fun g=>e3 g.2)]at hstep
      have e':(¬x.2.1<y.2.1∧¬x.2.1=y.2.1∧¬y.2.1=x.2.1)∨(¬x.2.1<y.2.1∧x.2.1=y.2.1∧¬x.1≤y.1∧¬y.2.1<0∧¬1000000≤y.2.1∧¬y.2.1<y.2.1):=by omega
      rcases e' with e' | e'
      ·simp +contextual (maxSteps:=4000000) only[↓bdD,bdP,Nat.reduceLT,Nat.reduceBEq,Nat.reduceAdd,Store.new,Store.set,↓reduceIte,AJ,ty3,BE,Au,AF,BZ,h18,hlt,hx,e,h0i,hwm,hltm,hy,e',hw1,hstep]
      ·simp +contextual (maxSteps:=4000000) only[↓bdD,bdP,Nat.reduceLT,Nat.reduceBEq,Nat.reduceAdd,Store.new,Store.set,↓reduceIte,AJ,ty3,BE,Au,AF,BZ,h18,hlt,hx,e,h0i,hwm,hltm,hy,e',hw1,hstep]
  ·have e:k=l.length:=by omega
   subst e
   rw [hz]at hr
   subst hr
   simp +contextual (maxSteps:=4000000) only[↓bdD,bdP,Nat.reduceLT,Nat.reduceBEq,Ag,↓reduceIte,h18]
theorem JQ:WV:=vT vU
noncomputable def Hu:(Int)×(List Lnk)×(List Snd)→List PV:=fun (hn,ls,l) => [.agg [I hn,Az ls],AB l]
noncomputable def SW:(Int)×(List Lnk)×(List Snd)→PV:=fun (hn,ls,l)=>I (AQ hn ls l)
def SX:(Int)×(List Lnk)×(List Snd)→Prop:=fun (hn,ls,l)=>True
noncomputable def e_rright:Nat×Ent:=(55,.v (Ah Hu SW SX))
theorem jZ:∀i j,Hu i=Hu j→i=j:=by
 rintro ⟨hn₁,ls₁,l₁⟩ ⟨hn₂,ls₂,l₂⟩ h
 simp only[Hu,List.cons.injEq,and_true,PV.lits.injEq,PV.int.injEq,PV.agg.injEq,true_and,AU,AG]at h
 simp [h] <;> omega
theorem EW (hn:Int) (ls:List Lnk) (l:List Snd):Ah Hu SW SX [.agg [I hn,Az ls],AB l]=some (I (AQ hn ls l)):=Ay jZ (i:=(hn,ls,l)) trivial
def SY:Prop:=∀(hn:Int) (ls:List Lnk) (l:List Snd) ,VC Try.prog 55 [.agg [I hn,Az ls],AB l] (I (AQ hn ls l))
def SZ:Prop:=AN Try.prog e_rright.1 e_rright.2
theorem kA (c:SY):SZ:=At fun⟨hn,ls,l⟩ h=>c hn ls l
theorem kB:SY:=by
 intro hn ls l
 refine A5 AR (l := [e_rcheck]) ((Ae jX As)) [] []  Try.func55 rfl (by decide +kernel) (N:=90) rfl (by simp) rfl (by kernel_rfl) fun hs=>?_
 simp only[AI,PV.small,List.length_map,and_true,true_and]at hs
 by_cases h:Ct hn ls=0
 case neg =>
  rw [show AQ hn ls l=Ct hn ls by simp[AQ,h]]
  generalize hr:Ct hn ls=r at *
  simp +contextual (maxSteps:=4000000) only[↓bdD,bdP,Nat.reduceLT,Nat.reduceBEq,Ag,Nat.reduceAdd,st0,↓reduceIte,e_rcheck,Mx,Ab,Try.f55,Au,h,hr]
 have hc:=check_zero.1 h
 have h60:=hc.len
 by_cases hl:2000<l.length
 ·have hli:(2000:Int)<(l.length:Int):=by omega
  rw [show AQ hn ls l=2 by simp[AQ,h,hl]]
  simp +contextual (maxSteps:=4000000) only[↓bdD,bdP,Nat.reduceLT,Nat.reduceBEq,Ag,Nat.reduceAdd,st0,↓reduceIte,e_rcheck,Mx,Ab,Try.f55,Au,AF,h,hli]
 have hli:¬(2000:Int)<(l.length:Int):=by omega
 rw [show AQ hn ls l=rgT ls l l.length by simp[AQ,h,hl]]
 generalize hr:rgT ls l l.length=r
 simp +contextual (maxSteps:=4000000) only[↓bdD,bdP,Nat.reduceLT,Nat.reduceBEq,Nat.reduceAdd,st0,↓reduceIte,e_rcheck,Mx,Ab,Try.f55,Au,AF,h,hli]
 refine AA [4,6,7,16,17,18,19,20,21,22,23,24,25,26,27,28,29,30,31,32,33,34,35,36,37,38,39,40,41,42,43,44,45,46,47,48,49,50,51,52,53,54,55,56,57,58,59,60,61,62,63,64,65,66,67,68,69,70,71,72,73,74,75,76,77,78,79,80,81,82,83,84,85,86,87,88,89] l.length (fun k ρ st'=>ρ 6=I k∧rgT ls l k=0) (.refl _) ?_ ?_
 ·simp +contextual (maxSteps:=4000000) only[↓bdD,bdP,rgT]
 ·rintro k ρ ⟨ob,M⟩ hk ⟨h6,hz⟩
  by_cases hlt:k<l.length
  ·have hstep:rgT ls l (k+1)=SV ls l k:=by simp only[rgT,hz,ne_eq,not_true_eq_false,if_false]
   have hw1:IntKind.i64.wrap ((k:Int)+1)=((k+1:Nat):Int):=by rw[Aj (by omega) (by omega)];omega
   unfold SV at hstep
   generalize hx:l.getD k dS=x at *
   by_cases e1:x.1<0∨(ls.length:Int)≤x.1
   ·rw [if_pos e1]at hstep
    have hend:=H2 (m:=l.length) (by rw[hstep];decide) (show k+1≤l.length by omega)
    rw [hend,hstep]at hr
    subst hr
    have e:x.1<0∨(¬x.1<0∧(ls.length:Int)≤x.1):=by omega
    rcases e with e | e
    ·simp +contextual (maxSteps:=4000000) only[↓bdD,bdP,Nat.reduceLT,Nat.reduceBEq,Ag,Nat.reduceAdd,Store.new,Store.set,↓reduceIte,AJ,ty3,AF,BZ,h6,hlt,hx,e]
    ·simp +contextual (maxSteps:=4000000) only[↓bdD,bdP,Nat.reduceLT,Nat.reduceBEq,Ag,Nat.reduceAdd,Store.new,Store.set,↓reduceIte,AJ,ty3,BE,Au,AF,BZ,h6,hlt,hx,e]
   ·rw [if_neg e1]at hstep
    by_cases e2:x.2.1<0∨1000000≤x.2.1∨x.2.2<1∨1073741824<x.2.2
    ·rw [if_pos e2]at hstep
     have hend:=H2 (m:=l.length) (by rw[hstep];decide) (show k+1≤l.length by omega)
     rw [hend,hstep]at hr
     subst hr
     have e:(¬x.1<0∧¬(ls.length:Int)≤x.1∧x.2.1<0)∨(¬x.1<0∧¬(ls.length:Int)≤x.1∧¬x.2.1<0∧1000000≤x.2.1)∨(¬x.1<0∧¬(ls.length:Int)≤x.1∧¬x.2.1<0∧¬1000000≤x.2.1∧x.2.2<1)∨(¬x.1<0∧¬(ls.length:Int)≤x.1∧¬x.2.1<0∧¬1000000≤x.2.1∧¬x.2.2<1∧1073741824<x.2.2):=by omega
     rcases e with e | e | e | e
     ·simp +contextual (maxSteps:=4000000) only[↓bdD,bdP,Nat.reduceLT,Nat.reduceBEq,Ag,Nat.reduceAdd,Store.new,Store.set,↓reduceIte,AJ,ty3,BE,Au,AF,BZ,h6,hlt,hx,e]
     ·simp +contextual (maxSteps:=4000000) only[↓bdD,bdP,Nat.reduceLT,Nat.reduceBEq,Ag,Nat.reduceAdd,Store.new,Store.set,↓reduceIte,AJ,ty3,BE,Au,AF,BZ,h6,hlt,hx,e]
     ·simp +contextual (maxSteps:=4000000) only[↓bdD,bdP,Nat.reduceLT,Nat.reduceBEq,Ag,Nat.reduceAdd,Store.new,Store.set,↓reduceIte,AJ,ty3,BE,Au,AF,BZ,h6,hlt,hx,e]
     ·simp +contextual (maxSteps:=4000000) only[↓bdD,bdP,Nat.reduceLT,Nat.reduceBEq,Ag,Nat.reduceAdd,Store.new,Store.set,↓reduceIte,AJ,ty3,BE,Au,AF,BZ,h6,hlt,hx,e]
    ·rw [if_neg e2]at hstep
     have e:¬x.1<0∧¬(ls.length:Int)≤x.1∧¬x.2.1<0∧¬1000000≤x.2.1∧¬x.2.2<1∧¬1073741824<x.2.2:=by omega
     by_cases h0:0<k
     case neg =>
      rw [if_neg (fun g=>h0 g.1)]at hstep
      have h0i:¬(0:Int)<(k:Int):=by omega
      simp +contextual (maxSteps:=4000000) only[↓bdD,bdP,Nat.reduceLT,Nat.reduceBEq,Nat.reduceAdd,Store.new,Store.set,↓reduceIte,AJ,ty3,BE,Au,AF,BZ,h6,hlt,hx,e,h0i,hw1,hstep]
     have h0i:(0:Int)<(k:Int):=by omega
     have hwm:IntKind.i64.wrap ((k:Int)-1)=((k-1:Nat):Int):=by rw[Aj (by omega) (by omega)];omega
     have hltm:k-1<l.length:=by omega
     generalize hy:l.getD (k-1) dS=y at *
     by_cases e3:x.2.1<y.2.1∨(x.2.1=y.2.1∧x.1≤y.1)
     ·rw [if_pos ⟨h0,e3⟩]at hstep
      have hend:=H2 (m:=l.length) (by rw[hstep];decide) (show k+1≤l.length by omega)
      rw [hend,hstep]at hr
      subst hr
      have e':x.2.1<y.2.1∨(¬x.2.1<y.2.1∧x.2.1=y.2.1∧x.1≤y.1∧¬y.2.1<0∧¬1000000≤y.2.1∧¬y.2.1<y.2.1):=by omega
      rcases e' with e' | e'
      ·simp +contextual (maxSteps:=4000000) only[↓bdD,bdP,Nat.reduceLT,Nat.reduceBEq,Ag,Nat.reduceAdd,Store.new,Store.set,↓reduceIte,AJ,ty3,BE,Au,AF,BZ,h6,hlt,hx,e,h0i,hwm,hltm,hy,e']
      ·simp +contextual (maxSteps:=4000000) only[↓bdD,bdP,Nat.reduceLT,Nat.reduceBEq,Ag,Nat.reduceAdd,Store.new,Store.set,↓reduceIte,AJ,ty3,BE,Au,AF,BZ,h6,hlt,hx,e,h0i,hwm,hltm,hy,e']
     ·rw [if_neg (fun g=>e3 g.2)]at hstep
      have e':(¬x.2.1<y.2.1∧¬x.2.1=y.2.1∧¬y.2.1=x.2.1)∨(¬x.2.1<y.2.1∧x.2.1=y.2.1∧¬x.1≤y.1∧¬y.2.1<0∧¬1000000≤y.2.1∧¬y.2.1<y.2.1):=by omega
      rcases e' with e' | e'
      ·simp +contextual (maxSteps:=4000000) only[↓bdD,bdP,Nat.reduceLT,Nat.reduceBEq,Nat.reduceAdd,Store.new,Store.set,↓reduceIte,AJ,ty3,BE,Au,AF,BZ,h6,hlt,hx,e,h0i,hwm,hltm,hy,e',hw1,hstep]
      ·simp +contextual (maxSteps:=4000000) only[↓bdD,bdP,Nat.reduceLT,Nat.reduceBEq,Nat.reduceAdd,Store.new,Store.set,↓reduceIte,AJ,ty3,BE,Au,AF,BZ,h6,hlt,hx,e,h0i,hwm,hltm,hy,e',hw1,hstep]
  ·have e:k=l.length:=by omega
   subst e
   rw [hz]at hr
   subst hr
   simp +contextual (maxSteps:=4000000) only[↓bdD,bdP,Nat.reduceLT,Nat.reduceBEq,Ag,Nat.reduceAdd,↓reduceIte,AF,h6]
theorem S0:SZ:=kA kB
end Sim
