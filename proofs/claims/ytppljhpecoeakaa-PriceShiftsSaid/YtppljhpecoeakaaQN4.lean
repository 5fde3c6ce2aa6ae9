/- What functions of this seat compute, by values: contracts (lemmas of the statement's proof, under the conditions that each names). -/
import Derived.Test.YtppljhpecoeakaaQN2
set_option maxRecDepth 10000
set_option maxHeartbeats 2000000
set_option linter.unusedVariables false
set_option linter.unusedSimpArgs false
namespace Sim
open Go Go.Proofs
attribute [local congr] Ap Aq Al AC As Ar Av
structure OKr (hn:Int) (ls:List Lnk) (l:List Snd):Prop where
 net : OKn hn ls
 len : l.length≤2000
 link : ∀k,k<l.length→0≤(l.getD k dS).1∧(l.getD k dS).1<(ls.length:Int)
 tick : ∀k,k<l.length→0≤(l.getD k dS).2.1∧(l.getD k dS).2.1<1000000
 bytes : ∀k,k<l.length→1≤(l.getD k dS).2.2∧(l.getD k dS).2.2≤1073741824
 asc : ∀k,0<k→k<l.length→(l.getD (k-1) dS).2.1<(l.getD k dS).2.1∨((l.getD (k-1) dS).2.1=(l.getD k dS).2.1∧(l.getD (k-1) dS).1<(l.getD k dS).1)
theorem Th {ls:List Lnk} {l:List Snd}:∀ {k},rgT ls l k=0↔∀i,i<k→Tb ls l i=0
 | 0=>⟨fun _ h g=>absurd g (by omega),fun _=>rfl⟩
 | k+1=>by
  have ih:=@Th ls l k
  simp only[rgT]
  by_cases h:rgT ls l k=0
  ·rw [if_neg (fun hn=>hn h)]
   constructor
   ·intro hb i hi
    by_cases e:i=k
    ·subst e;exact hb
    ·exact ih.1 h i (by omega)
   ·intro g;exact g k (by omega)
  ·rw [if_pos h]
   exact ⟨fun g=>absurd g h,fun g=>absurd (ih.2 fun i hi=>g i (by omega)) h⟩
theorem sndE_zero {ls:List Lnk} {l:List Snd} {k:Nat}:Tb ls l k=0↔(0≤(l.getD k dS).1∧(l.getD k dS).1<(ls.length:Int))∧(0≤(l.getD k dS).2.1∧(l.getD k dS).2.1<1000000)∧(1≤(l.getD k dS).2.2∧(l.getD k dS).2.2≤1073741824)∧(0<k→(l.getD (k-1) dS).2.1<(l.getD k dS).2.1∨((l.getD (k-1) dS).2.1=(l.getD k dS).2.1∧(l.getD (k-1) dS).1<(l.getD k dS).1)):=by
 unfold Tb
 generalize l.getD k dS=x
 generalize l.getD (k-1) dS=y
 split
 ·constructor
  ·intro h;cases h
  ·omega
 ·split
  ·constructor
   ·intro h;cases h
   ·omega
  ·split
   ·constructor
    ·intro h;cases h
    ·omega
   ·constructor
    ·intro; omega
    ·intro; rfl
theorem right_zero {hn:Int} {ls:List Lnk} {l:List Snd}:AS hn ls l=0↔OKr hn ls l:=by
 unfold AS
 split
 ·rename_i h
  exact ⟨fun g=>absurd g h,fun g=>absurd (check_zero.2 g.net) h⟩
 ·rename_i h
  have h:=check_zero.1 (Classical.not_not.1 h)
  split
  ·exact ⟨fun g=>(by cases g),fun g=>(by have:=g.len;omega)⟩
  ·rw [Th]
   constructor
   ·intro g
    exact ⟨h,by omega,fun k hk=>(sndE_zero.1 (g k hk)).1,fun k hk=>(sndE_zero.1 (g k hk)).2.1,fun k hk=>(sndE_zero.1 (g k hk)).2.2.1,fun k h0 hk=>(sndE_zero.1 (g k hk)).2.2.2 h0⟩
   ·intro g k hk
    exact sndE_zero.2 ⟨g.link k hk,g.tick k hk,g.bytes k hk,fun h0=>g.asc k h0 hk⟩
def Cp (ls:List Lnk) (link tick:Int):Int:=CL (ls.getD link.toNat dL) (tick.toNat % 24)
def EC (ls:List Lnk) (link tick:Int):Int:=Er (ls.getD link.toNat dL) (tick.toNat % 24)
theorem MF {t:Int} (h:0≤t):Int.tmod t 24=((t.toNat % 24:Nat):Int):=by
 rw [Int.tmod_eq_emod_of_nonneg h];omega
theorem DG {a:Int} {n:Nat} (h0:0≤a) (h:a<(n:Int)):a.toNat<n:=by omega
noncomputable def Ti:(Int)×(List Lnk)×(Int)×(Int)→List PV:=fun (hn,ls,link,tick) => [.agg [I hn,Az ls],I link,I tick]
noncomputable def Aa7:(Int)×(List Lnk)×(Int)×(Int)→PV:=fun (hn,ls,link,tick)=>I (Cp ls link tick)
def Aa8:(Int)×(List Lnk)×(Int)×(Int)→Prop:=fun (hn,ls,link,tick)=>0≤link∧link<(ls.length:Int)∧0≤tick
noncomputable def e_cap:Nat×Ent:=(69,.v (Ah Ti Aa7 Aa8))
theorem Ahq:∀i j,Ti i=Ti j→i=j:=by
 rintro ⟨hn₁,ls₁,link₁,tick₁⟩ ⟨hn₂,ls₂,link₂,tick₂⟩ h
 simp only[Ti,List.cons.injEq,and_true,PV.lits.injEq,PV.int.injEq,PV.agg.injEq,true_and,AG]at h
 simp [h] <;> omega
theorem lG (hn:Int) (ls:List Lnk) (link:Int) (tick:Int):Ah Ti Aa7 Aa8 [.agg [I hn,Az ls],I link,I tick]=@ite (Option (PV)) (0≤link∧link<(ls.length:Int)∧0≤tick) (Classical.propDecidable _) (some (I (Cp ls link tick))) none:=BV Ahq (hn,ls,link,tick)
def Aa9:Prop:=∀(hn:Int) (ls:List Lnk) (link:Int) (tick:Int) (h:0≤link∧link<(ls.length:Int)∧0≤tick) ,VC Try.prog 69 [.agg [I hn,Az ls],I link,I tick] (I (Cp ls link tick))
def Aba:Prop:=AM Try.prog e_cap.1 e_cap.2
theorem Ahr (c:Aa9):Aba:=At fun⟨hn,ls,link,tick⟩ h=>c hn ls link tick h
theorem Ahs:Aa9:=by
 rintro hn ls link tick ⟨h0,h1,h2⟩
 refine A5 AP (l := []) (Ao) [] []  Try.func69 rfl (by decide +kernel) (N:=16) rfl (by simp) rfl (by kernel_rfl) fun hs=>?_
 simp only[AI,PV.small,List.length_map,and_true,true_and]at hs
 unfold Cp
 have h3:=MF h2
 have h4:tick.toNat % 24<24:=Nat.mod_lt _ (by omega)
 have h4i:((tick.toNat % 24:Nat):Int)<24:=by omega
 generalize tick.toNat % 24=h at *
 have h5:=DG h0 h1
 have h6:=Int.toNat_of_nonneg h0
 generalize link.toNat=k at *
 generalize hr:CL (ls.getD k dL) h=r
 subst h6
 simp +contextual (maxSteps:=4000000) only[↓bdD,bdP,Nat.reduceLT,Nat.reduceBEq,Ai,Nat.reduceAdd,Int.reduceEq,st0,↓reduceIte,Br,Cu,Nat.mul_one,Try.f69,ty3,By,Aw,GT,B6,h0,h1,h3,h4,h4i,h5,hr]
theorem Abb:Aba:=Ahr Ahs
noncomputable def MG:(Int)×(List Lnk)×(Int)×(Int)→List PV:=fun (hn,ls,link,tick) => [.agg [I hn,Az ls],I link,I tick]
noncomputable def lH:(Int)×(List Lnk)×(Int)×(Int)→PV:=fun (hn,ls,link,tick)=>I (Cp ls link tick)
def lI:(Int)×(List Lnk)×(Int)×(Int)→Prop:=fun (hn,ls,link,tick)=>0≤link∧link<(ls.length:Int)∧0≤tick
noncomputable def e_rcap:Nat×Ent:=(48,.v (Ah MG lH lI))
theorem Ade:∀i j,MG i=MG j→i=j:=by
 rintro ⟨hn₁,ls₁,link₁,tick₁⟩ ⟨hn₂,ls₂,link₂,tick₂⟩ h
 simp only[MG,List.cons.injEq,and_true,PV.lits.injEq,PV.int.injEq,PV.agg.injEq,true_and,AG]at h
 simp [h] <;> omega
theorem Wg (hn:Int) (ls:List Lnk) (link:Int) (tick:Int):Ah MG lH lI [.agg [I hn,Az ls],I link,I tick]=@ite (Option (PV)) (0≤link∧link<(ls.length:Int)∧0≤tick) (Classical.propDecidable _) (some (I (Cp ls link tick))) none:=BV Ade (hn,ls,link,tick)
def lJ:Prop:=∀(hn:Int) (ls:List Lnk) (link:Int) (tick:Int) (h:0≤link∧link<(ls.length:Int)∧0≤tick) ,VC Try.prog 48 [.agg [I hn,Az ls],I link,I tick] (I (Cp ls link tick))
def lK:Prop:=AM Try.prog e_rcap.1 e_rcap.2
theorem Adf (c:lJ):lK:=At fun⟨hn,ls,link,tick⟩ h=>c hn ls link tick h
theorem Adg:lJ:=by
 rintro hn ls link tick ⟨h0,h1,h2⟩
 refine A5 AP (l := []) (Ao) [] []  Try.func48 rfl (by decide +kernel) (N:=16) rfl (by simp) rfl (by kernel_rfl) fun hs=>?_
 simp only[AI,PV.small,List.length_map,and_true,true_and]at hs
 unfold Cp
 have h3:=MF h2
 have h4:tick.toNat % 24<24:=Nat.mod_lt _ (by omega)
 have h4i:((tick.toNat % 24:Nat):Int)<24:=by omega
 generalize tick.toNat % 24=h at *
 have h5:=DG h0 h1
 have h6:=Int.toNat_of_nonneg h0
 generalize link.toNat=k at *
 generalize hr:CL (ls.getD k dL) h=r
 subst h6
 simp +contextual (maxSteps:=4000000) only[↓bdD,bdP,Nat.reduceLT,Nat.reduceBEq,Ai,Nat.reduceAdd,Int.reduceEq,st0,↓reduceIte,Br,Cu,Nat.mul_one,Try.f48,ty3,By,Aw,GT,B6,h0,h1,h3,h4,h4i,h5,hr]
theorem lL:lK:=Adf Adg
def ftT (ls:List Lnk) (l:List Snd):Nat→Bool
 | 0=>false
 | k+1=>ftT ls l k||decide (Cp ls (l.getD k dS).1 (l.getD k dS).2.1<(l.getD k dS).2.2)
def Bz (hn:Int) (ls:List Lnk) (l:List Snd):Int:=if AS hn ls l≠0 then AS hn ls l else if ftT ls l l.length=true then 13 else 0
theorem Xf {ls:List Lnk} {l:List Snd} {k m:Nat} (h:ftT ls l k=true) (hk:k≤m):ftT ls l m=true:=by
 induction m with
 | zero=>rwa [show k=0 by omega]at h
 | succ m ih =>
  by_cases e:k=m+1
  ·rwa [←e]
  ·simp only[ftT,ih (by omega),Bool.true_or]
noncomputable def MH:(Int)×(List Lnk)×(List Snd)→List PV:=fun (hn,ls,l) => [.agg [I hn,Az ls],AB l]
noncomputable def lM:(Int)×(List Lnk)×(List Snd)→PV:=fun (hn,ls,l)=>I (Bz hn ls l)
def lN:(Int)×(List Lnk)×(List Snd)→Prop:=fun (hn,ls,l)=>True
noncomputable def e_fits:Nat×Ent:=(54,.v (Ah MH lM lN))
theorem Adh:∀i j,MH i=MH j→i=j:=by
 rintro ⟨hn₁,ls₁,l₁⟩ ⟨hn₂,ls₂,l₂⟩ h
 simp only[MH,List.cons.injEq,and_true,PV.lits.injEq,PV.int.injEq,PV.agg.injEq,true_and,AR,AG]at h
 simp [h] <;> omega
theorem KK (hn:Int) (ls:List Lnk) (l:List Snd):Ah MH lM lN [.agg [I hn,Az ls],AB l]=some (I (Bz hn ls l)):=AA Adh (i:=(hn,ls,l)) trivial
def lO:Prop:=∀(hn:Int) (ls:List Lnk) (l:List Snd) ,VC Try.prog 54 [.agg [I hn,Az ls],AB l] (I (Bz hn ls l))
def lP:Prop:=AM Try.prog e_fits.1 e_fits.2
theorem Adi (c:lO):lP:=At fun⟨hn,ls,l⟩ h=>c hn ls l
theorem Adj:lO:=by
 intro hn ls l
 refine A5 AP (l := [e_right,e_cap]) ((Ae JX (Ae Abb Ao))) [27] []  Try.func54 rfl (by decide +kernel) (N:=30) rfl (by simp) rfl (by kernel_rfl) fun hs=>?_
 simp only[AI,PV.small,List.length_map,and_true,true_and]at hs
 by_cases h:AS hn ls l=0
 case neg =>
  rw [show Bz hn ls l=AS hn ls l by simp[Bz,h]]
  generalize hr:AS hn ls l=r at *
  simp +contextual (maxSteps:=4000000) only[↓bdD,bdP,Nat.reduceLT,Nat.reduceBEq,Ai,Nat.reduceAdd,st0,↓reduceIte,e_right,BP,e_cap,Ac,Ab,Try.f54,Aw,AJ,h,hr]
 have ok:=right_zero.1 h
 have hlen:=ok.len
 rw [show Bz hn ls l=if ftT ls l l.length=true then 13 else 0 by simp[Bz,h]]
 generalize hr:(if ftT ls l l.length=true then (13:Int)else 0)=r
 simp +contextual (maxSteps:=4000000) only[↓bdD,bdP,Nat.reduceLT,Nat.reduceBEq,Nat.reduceAdd,st0,↓reduceIte,e_right,BP,e_cap,Ac,Ab,Try.f54,Aw,AJ,h]
 refine Ax [4,7,16,17,18,19,20,21,22,23,24,25,26,27,28,29] l.length (fun k ρ st'=>ρ 16=I k∧ftT ls l k=false) (.refl _) ?_ ?_
 ·simp +contextual (maxSteps:=4000000) only[↓bdD,bdP,ftT]
 ·rintro k ρ ⟨ob,M⟩ hk ⟨h16,hz⟩
  by_cases hlt:k<l.length
  ·have hw1:IntKind.i64.wrap ((k:Int)+1)=((k+1:Nat):Int):=by rw[Ag (by omega) (by omega)];omega
   have e1:=ok.link k hlt
   have e2:=(ok.tick k hlt).1
   have hs:ftT ls l (k+1)=decide (Cp ls (l.getD k dS).1 (l.getD k dS).2.1<(l.getD k dS).2.2):=by simp only[ftT,hz,Bool.false_or]
   generalize hx:l.getD k dS=x at *
   by_cases hb:Cp ls x.1 x.2.1<x.2.2
   ·rw [decide_eq_true hb]at hs
    rw [if_pos (Xf hs (by omega))]at hr
    subst hr
    simp +contextual (maxSteps:=4000000) only[↓bdD,bdP,Nat.reduceLT,Nat.reduceBEq,Ai,Nat.reduceEqDiff,Nat.reduceAdd,Store.new,Store.set,↓reduceIte,lG,AH,Ab,ty3,Aw,AJ,BU,h16,hlt,hx,e1,e2,hb]
   ·rw [decide_eq_false hb]at hs
    simp +contextual (maxSteps:=4000000) only[↓bdD,bdP,Nat.reduceLT,Nat.reduceBEq,Nat.reduceEqDiff,Nat.reduceAdd,Store.new,Store.set,↓reduceIte,lG,AH,Ab,ty3,Aw,AJ,BU,h16,hlt,hx,e1,e2,hb,hs,hw1]
  ·have e:k=l.length:=by omega
   subst e
   rw [hz,if_neg (by simp)]at hr
   subst hr
   simp +contextual (maxSteps:=4000000) only[↓bdD,bdP,Nat.reduceLT,Nat.reduceBEq,Ai,↓reduceIte,h16]
theorem lQ:lP:=Adi Adj
noncomputable def JY:(Int)×(List Lnk)×(List Snd)→List PV:=fun (hn,ls,l) => [.agg [I hn,Az ls],AB l]
noncomputable def Xg:(Int)×(List Lnk)×(List Snd)→PV:=fun (hn,ls,l)=>I (Bz hn ls l)
def Xh:(Int)×(List Lnk)×(List Snd)→Prop:=fun (hn,ls,l)=>True
noncomputable def e_rfits:Nat×Ent:=(56,.v (Ah JY Xg Xh))
theorem xI:∀i j,JY i=JY j→i=j:=by
 rintro ⟨hn₁,ls₁,l₁⟩ ⟨hn₂,ls₂,l₂⟩ h
 simp only[JY,List.cons.injEq,and_true,PV.lits.injEq,PV.int.injEq,PV.agg.injEq,true_and,AR,AG]at h
 simp [h] <;> omega
theorem LC (hn:Int) (ls:List Lnk) (l:List Snd):Ah JY Xg Xh [.agg [I hn,Az ls],AB l]=some (I (Bz hn ls l)):=AA xI (i:=(hn,ls,l)) trivial
def Xi:Prop:=∀(hn:Int) (ls:List Lnk) (l:List Snd) ,VC Try.prog 56 [.agg [I hn,Az ls],AB l] (I (Bz hn ls l))
def Xj:Prop:=AM Try.prog e_rfits.1 e_rfits.2
theorem xJ (c:Xi):Xj:=At fun⟨hn,ls,l⟩ h=>c hn ls l
theorem xK:Xi:=by
 intro hn ls l
 refine A5 AP (l := [e_rright,e_rcap]) ((Ae Tg (Ae lL Ao))) [35] []  Try.func56 rfl (by decide +kernel) (N:=37) rfl (by simp) rfl (by kernel_rfl) fun hs=>?_
 simp only[AI,PV.small,List.length_map,and_true,true_and]at hs
 by_cases h:AS hn ls l=0
 case neg =>
  rw [show Bz hn ls l=AS hn ls l by simp[Bz,h]]
  generalize hr:AS hn ls l=r at *
  simp +contextual (maxSteps:=4000000) only[↓bdD,bdP,Nat.reduceLT,Nat.reduceBEq,Ai,Nat.reduceAdd,st0,↓reduceIte,e_rright,Fe,e_rcap,Ac,Ab,Try.f56,Aw,AJ,h,hr]
 have ok:=right_zero.1 h
 have hlen:=ok.len
 rw [show Bz hn ls l=if ftT ls l l.length=true then 13 else 0 by simp[Bz,h]]
 generalize hr:(if ftT ls l l.length=true then (13:Int)else 0)=r
 simp +contextual (maxSteps:=4000000) only[↓bdD,bdP,Nat.reduceLT,Nat.reduceBEq,Nat.reduceAdd,st0,↓reduceIte,e_rright,Fe,e_rcap,Ac,Ab,Try.f56,Aw,AJ,h]
 refine Ax [4,6,13,14,15,16,17,18,19,20,21,22,23,24,25,26,27,28,29,30,31,32,33,34,35,36] l.length (fun k ρ st'=>ρ 6=I k∧ftT ls l k=false) (.refl _) ?_ ?_
 ·simp +contextual (maxSteps:=4000000) only[↓bdD,bdP,ftT]
 ·rintro k ρ ⟨ob,M⟩ hk ⟨h6,hz⟩
  by_cases hlt:k<l.length
  ·have hw1:IntKind.i64.wrap ((k:Int)+1)=((k+1:Nat):Int):=by rw[Ag (by omega) (by omega)];omega
   have e1:=ok.link k hlt
   have e2:=(ok.tick k hlt).1
   have hs:ftT ls l (k+1)=decide (Cp ls (l.getD k dS).1 (l.getD k dS).2.1<(l.getD k dS).2.2):=by simp only[ftT,hz,Bool.false_or]
   generalize hx:l.getD k dS=x at *
   by_cases hb:Cp ls x.1 x.2.1<x.2.2
   ·rw [decide_eq_true hb]at hs
    rw [if_pos (Xf hs (by omega))]at hr
    subst hr
    simp +contextual (maxSteps:=4000000) only[↓bdD,bdP,Nat.reduceLT,Nat.reduceBEq,Ai,Nat.reduceEqDiff,Nat.reduceAdd,↓reduceIte,Wg,AH,Ab,ty3,Aw,AJ,BU,h6,hlt,hx,e1,e2,hb]
   ·rw [decide_eq_false hb]at hs
    simp +contextual (maxSteps:=4000000) only[↓bdD,bdP,Nat.reduceLT,Nat.reduceBEq,Nat.reduceEqDiff,Nat.reduceAdd,↓reduceIte,Wg,AH,Ab,ty3,Aw,AJ,BU,h6,hlt,hx,e1,e2,hb,hs,hw1]
  ·have e:k=l.length:=by omega
   subst e
   rw [hz,if_neg (by simp)]at hr
   subst hr
   simp +contextual (maxSteps:=4000000) only[↓bdD,bdP,Nat.reduceLT,Nat.reduceBEq,Ai,Nat.reduceAdd,↓reduceIte,AJ,h6]
theorem xL:Xj:=xJ xK
end Sim
namespace Sim
open Go Go.Proofs
attribute [local congr] Ap Aq Al AC As Ar Av
theorem JZ {hn:Int} {ls:List Lnk} (h:OKn hn ls) {link tick:Int} (h0:0≤link) (h1:link<(ls.length:Int)):0≤EC ls link tick∧EC ls link tick≤1000000:=by
 have := h.hours link.toNat (tick.toNat % 24) (DG h0 h1) (Nat.mod_lt _ (by omega))
 exact ⟨this.2.2.1,this.2.2.2⟩
theorem Ej {hn:Int} {ls:List Lnk} (h:OKn hn ls) {link tick:Int} (h0:0≤link) (h1:link<(ls.length:Int)):0≤Cp ls link tick∧Cp ls link tick≤1073741824:=by
 have := h.hours link.toNat (tick.toNat % 24) (DG h0 h1) (Nat.mod_lt _ (by omega))
 exact ⟨this.1,this.2.1⟩
def Fv (ls:List Lnk) (l:List Snd):Nat→Int
 | 0=>0
 | k+1=>Fv ls l k+(l.getD k dS).2.2*EC ls (l.getD k dS).1 (l.getD k dS).2.1
def FW (hn:Int) (ls:List Lnk) (l:List Snd):Int:=if AS hn ls l≠0 then 0 else Fv ls l l.length
theorem OA {a b A B:Int} (h0:0≤a) (h1:a≤A) (h2:0≤b) (h3:b≤B):0≤a*b∧a*b≤A*B :=
 ⟨Int.mul_nonneg h0 h2,Int.mul_le_mul h1 h3 h2 (by omega)⟩
theorem Tj {hn:Int} {ls:List Lnk} {l:List Snd} (ok:OKr hn ls l):∀k:Nat,k≤l.length→0≤Fv ls l k∧Fv ls l k≤1073741824000000*(k:Int)
 | 0,_=>⟨Int.le_refl _,by simp[Fv]⟩
 | k+1,h=>by
  have ih:=Tj ok k (by omega)
  have h1:=ok.link k (by omega)
  have h2:=ok.bytes k (by omega)
  have h3:=JZ ok.net h1.1 h1.2 (tick:=(l.getD k dS).2.1)
  have h4:=OA (by omega) h2.2 h3.1 h3.2
  simp only[Fv]
  omega
theorem xM {hn:Int} {ls:List Lnk} {l:List Snd} (ok:OKr hn ls l) {k:Nat} (h:k<l.length):IntKind.i64.wrap ((l.getD k dS).2.2*EC ls (l.getD k dS).1 (l.getD k dS).2.1)=(l.getD k dS).2.2*EC ls (l.getD k dS).1 (l.getD k dS).2.1 ∧
  IntKind.i64.wrap (Fv ls l k+(l.getD k dS).2.2*EC ls (l.getD k dS).1 (l.getD k dS).2.1)=Fv ls l (k+1):=by
 have h0:=ok.len
 have h1:=ok.link k h
 have h2:=ok.bytes k h
 have h3:=JZ ok.net h1.1 h1.2 (tick:=(l.getD k dS).2.1)
 have h4:=OA (by omega) h2.2 h3.1 h3.2
 have h5:=Tj ok k (by omega)
 exact ⟨Ag (by omega) (by omega),Ag (by omega) (by omega)⟩
noncomputable def MI:(Int)×(List Lnk)×(List Snd)→List PV:=fun (hn,ls,l) => [.agg [I hn,Az ls],AB l]
noncomputable def lR:(Int)×(List Lnk)×(List Snd)→PV:=fun (hn,ls,l)=>.tuple [I (FW hn ls l),I (AS hn ls l)]
def lS:(Int)×(List Lnk)×(List Snd)→Prop:=fun (hn,ls,l)=>True
noncomputable def e_cost:Nat×Ent:=(25,.v (Ah MI lR lS))
theorem Adk:∀i j,MI i=MI j→i=j:=by
 rintro ⟨hn₁,ls₁,l₁⟩ ⟨hn₂,ls₂,l₂⟩ h
 simp only[MI,List.cons.injEq,and_true,PV.lits.injEq,PV.int.injEq,PV.agg.injEq,true_and,AR,AG]at h
 simp [h] <;> omega
theorem Adl (hn:Int) (ls:List Lnk) (l:List Snd):Ah MI lR lS [.agg [I hn,Az ls],AB l]=some (.tuple [I (FW hn ls l),I (AS hn ls l)]):=AA Adk (i:=(hn,ls,l)) trivial
def lT:Prop:=∀(hn:Int) (ls:List Lnk) (l:List Snd) ,VC Try.prog 25 [.agg [I hn,Az ls],AB l] (.tuple [I (FW hn ls l),I (AS hn ls l)])
def lU:Prop:=AM Try.prog e_cost.1 e_cost.2
theorem Adm (c:lT):lU:=At fun⟨hn,ls,l⟩ h=>c hn ls l
theorem Adn:lT:=by
 intro hn ls l
 refine A5 AP (l := [e_right]) ((Ae JX Ao)) [] []  Try.func25 rfl (by decide +kernel) (N:=40) rfl (by simp) rfl (by kernel_rfl) fun hs=>?_
 simp only[AI,PV.small,List.length_map,and_true,true_and]at hs
 by_cases h:AS hn ls l=0
 case neg =>
  rw [show FW hn ls l=0 by simp[FW,h]]
  generalize hr:AS hn ls l=r at *
  simp +contextual (maxSteps:=4000000) only[↓bdD,bdP,Nat.reduceLT,Nat.reduceBEq,Ai,Nat.reduceAdd,st0,↓reduceIte,e_right,BP,Ac,Ab,Try.f25,Aw,AJ,h,hr]
 have ok:=right_zero.1 h
 have hlen:=ok.len
 rw [show FW hn ls l=Fv ls l l.length by simp[FW,h],h]
 generalize hr:Fv ls l l.length=r
 simp +contextual (maxSteps:=4000000) only[↓bdD,bdP,Nat.reduceLT,Nat.reduceBEq,Nat.reduceAdd,st0,↓reduceIte,e_right,BP,Ac,Ab,Try.f25,Aw,AJ,h]
 refine Ax [7,9,18,19,20,21,22,23,24,25,26,27,28,29,30,31,32,33,34,35,36,37,38] l.length (fun k ρ st'=>ρ 18=I k∧ρ 7=I (Fv ls l k)) (.refl _) ?_ ?_
 ·simp +contextual (maxSteps:=4000000) only[↓bdD,bdP,Nat.reduceBEq,Fv]
 ·rintro k ρ ⟨ob,M⟩ hk ⟨h18,h7⟩
  by_cases hlt:k<l.length
  ·have hw1:IntKind.i64.wrap ((k:Int)+1)=((k+1:Nat):Int):=by rw[Ag (by omega) (by omega)];omega
   have e1:=ok.link k hlt
   have e2:=(ok.tick k hlt).1
   have hw:=xM ok hlt
   generalize hx:l.getD k dS=x at *
   have h3:=MF e2
   have h4:x.2.1.toNat % 24<24:=Nat.mod_lt _ (by omega)
   have h4i:((x.2.1.toNat % 24:Nat):Int)<24:=by omega
   unfold EC at hw
   generalize x.2.1.toNat % 24=hh at *
   have h5:=DG e1.1 e1.2
   have h6:=Int.toNat_of_nonneg e1.1
   generalize x.1.toNat=kk at *
   simp +contextual (maxSteps:=4000000) only[↓bdD,bdP,Nat.reduceLT,Nat.reduceBEq,Nat.reduceAdd,Int.reduceEq,Store.new,Store.set,↓reduceIte,AH,Br,Ei,Nat.mul_one,ty3,By,Aw,AJ,GT,B6,BU,h18,h7,hlt,hx,h3,h4,h4i,h5,←h6,hw,hw1]
  ·have e:k=l.length:=by omega
   subst e
   rw [hr]at h7
   simp +contextual (maxSteps:=4000000) only[↓bdD,bdP,Nat.reduceLT,Nat.reduceBEq,Ai,↓reduceIte,h18,h7]
theorem Ado:lU:=Adm Adn
def A9 (l:List Snd) (link tick:Int):Nat→Int
 | 0=>0
 | k+1=>A9 l link tick k+if (l.getD k dS).1=link∧(l.getD k dS).2.1=tick then (l.getD k dS).2.2 else 0
def D5 (hn:Int) (ls:List Lnk) (l:List Snd) (link tick:Int):Int×Int :=
 if AS hn ls l≠0 then (0,AS hn ls l)else if link<0∨(ls.length:Int)≤link∨tick<0∨1000000≤tick then (0,1)else (Cp ls link tick-A9 l link tick l.length,0)
def smB (l:List Snd):Prop:=l.length≤2000∧∀k,k<l.length→1≤(l.getD k dS).2.2∧(l.getD k dS).2.2≤1073741824
theorem MJ {l:List Snd} (h:smB l) (link tick:Int):∀k:Nat,k≤l.length→0≤A9 l link tick k∧A9 l link tick k≤1073741824*(k:Int)
 | 0,_=>⟨Int.le_refl _,by simp[A9]⟩
 | k+1,hk=>by
  have ih:=MJ h link tick k (by omega)
  have h2:=h.2 k (by omega)
  simp only[A9]
  split <;> omega
theorem OKr.smB {hn:Int} {ls:List Lnk} {l:List Snd} (h:OKr hn ls l):smB l:=⟨h.len,h.bytes⟩
noncomputable def ML:(Int)×(List Lnk)×(List Snd)×(Int)×(Int)→List PV:=fun (hn,ls,l,link,tick) => [.agg [I hn,Az ls],AB l,I link,I tick]
noncomputable def lV:(Int)×(List Lnk)×(List Snd)×(Int)×(Int)→PV:=fun (hn,ls,l,link,tick)=>.tuple [I (D5 hn ls l link tick).1,I (D5 hn ls l link tick).2]
def lW:(Int)×(List Lnk)×(List Snd)×(Int)×(Int)→Prop:=fun (hn,ls,l,link,tick)=>True
noncomputable def e_left:Nat×Ent:=(61,.v (Ah ML lV lW))
theorem Adp:∀i j,ML i=ML j→i=j:=by
 rintro ⟨hn₁,ls₁,l₁,link₁,tick₁⟩ ⟨hn₂,ls₂,l₂,link₂,tick₂⟩ h
 simp only[ML,List.cons.injEq,and_true,PV.lits.injEq,PV.int.injEq,PV.agg.injEq,true_and,AR,AG]at h
 simp [h] <;> omega
theorem Adq (hn:Int) (ls:List Lnk) (l:List Snd) (link:Int) (tick:Int):Ah ML lV lW [.agg [I hn,Az ls],AB l,I link,I tick]=some (.tuple [I (D5 hn ls l link tick).1,I (D5 hn ls l link tick).2]):=AA Adp (i:=(hn,ls,l,link,tick)) trivial
def lX:Prop:=∀(hn:Int) (ls:List Lnk) (l:List Snd) (link:Int) (tick:Int) ,VC Try.prog 61 [.agg [I hn,Az ls],AB l,I link,I tick] (.tuple [I (D5 hn ls l link tick).1,I (D5 hn ls l link tick).2])
def lY:Prop:=AM Try.prog e_left.1 e_left.2
theorem Adr (c:lX):lY:=At fun⟨hn,ls,l,link,tick⟩ h=>c hn ls l link tick
theorem Ads:lX:=by
 intro hn ls l link tick
 refine A5 AP (l := [e_right,e_cap]) ((Ae JX (Ae Abb Ao))) [] []  Try.func61 rfl (by decide +kernel) (N:=63) rfl (by simp) rfl (by kernel_rfl) fun hs=>?_
 simp only[AI,PV.small,List.length_map,and_true,true_and]at hs
 by_cases h:AS hn ls l=0
 case neg =>
  rw [show D5 hn ls l link tick=(0,AS hn ls l) by simp[D5,h]]
  generalize hr:AS hn ls l=r at *
  simp +contextual (maxSteps:=4000000) only[↓bdD,bdP,Nat.reduceLT,Nat.reduceBEq,Ai,Nat.reduceAdd,st0,↓reduceIte,e_right,BP,e_cap,Ac,Ab,Try.f61,Aw,AJ,h,hr]
 have ok:=right_zero.1 h
 have hlen:=ok.len
 by_cases hb:link<0∨(ls.length:Int)≤link∨tick<0∨1000000≤tick
 ·rw [show D5 hn ls l link tick=(0,1) by simp only[D5,h,ne_eq,not_true_eq_false,if_false];rw[if_pos hb]]
  have e:link<0∨(¬link<0∧(ls.length:Int)≤link)∨(¬link<0∧¬(ls.length:Int)≤link∧tick<0)∨(¬link<0∧¬(ls.length:Int)≤link∧¬tick<0∧1000000≤tick):=by omega
  rcases e with e | e | e | e
  ·simp +contextual (maxSteps:=4000000) only[↓bdD,bdP,Nat.reduceLT,Nat.reduceBEq,Ai,Nat.reduceAdd,st0,↓reduceIte,e_right,BP,e_cap,Ac,Ab,Try.f61,Aw,AJ,h,e]
  ·simp +contextual (maxSteps:=4000000) only[↓bdD,bdP,Nat.reduceLT,Nat.reduceBEq,Ai,Nat.reduceAdd,st0,↓reduceIte,e_right,BP,e_cap,Ac,Ab,Try.f61,By,Aw,AJ,h,e]
  ·simp +contextual (maxSteps:=4000000) only[↓bdD,bdP,Nat.reduceLT,Nat.reduceBEq,Ai,Nat.reduceAdd,st0,↓reduceIte,e_right,BP,e_cap,Ac,Ab,Try.f61,By,Aw,AJ,h,e]
  ·simp +contextual (maxSteps:=4000000) only[↓bdD,bdP,Nat.reduceLT,Nat.reduceBEq,Ai,Nat.reduceAdd,st0,↓reduceIte,e_right,BP,e_cap,Ac,Ab,Try.f61,By,Aw,AJ,h,e]
 rw [show D5 hn ls l link tick=(Cp ls link tick-A9 l link tick l.length,0) by simp only[D5,h,ne_eq,not_true_eq_false,if_false];rw[if_neg hb]]
 have e:¬link<0∧¬(ls.length:Int)≤link∧¬tick<0∧¬1000000≤tick∧0≤link∧link<(ls.length:Int)∧0≤tick:=by omega
 have hcap:=Ej ok.net e.2.2.2.2.1 e.2.2.2.2.2.1 (tick:=tick)
 have hb:=ok.smB
 generalize hr:Cp ls link tick-A9 l link tick l.length=r
 simp +contextual (maxSteps:=4000000) only[↓bdD,bdP,Nat.reduceLT,Nat.reduceBEq,Nat.reduceEqDiff,Nat.reduceAdd,st0,↓reduceIte,e_right,BP,e_cap,lG,Ac,Ab,Try.f61,ty3,By,Aw,AJ,h,e]
 refine Ax [11,13,43,44,45,46,47,48,49,50,51,52,53,54,55,56,57,58,59,60,61] l.length (fun k ρ st'=>ρ 43=I k∧ρ 11=I (Cp ls link tick-A9 l link tick k)) (.refl _) ?_ ?_
 ·simp +contextual (maxSteps:=4000000) only[↓bdD,bdP,Nat.reduceBEq,A9,Int.sub_zero]
 ·rintro k ρ ⟨ob,M⟩ hk ⟨h43,h11⟩
  by_cases hlt:k<l.length
  ·have hw1:IntKind.i64.wrap ((k:Int)+1)=((k+1:Nat):Int):=by rw[Ag (by omega) (by omega)];omega
   have hs:=MJ hb link tick k hk
   have hbk:=hb.2 k hlt
   have hstep:A9 l link tick (k+1)=A9 l link tick k+if (l.getD k dS).1=link∧(l.getD k dS).2.1=tick then (l.getD k dS).2.2 else 0:=rfl
   generalize hx:l.getD k dS=x at *
   by_cases e1:x.1=link
   ·by_cases e2:x.2.1=tick
    ·rw [if_pos ⟨e1,e2⟩]at hstep
     have hw2:IntKind.i64.wrap (Cp ls link tick-A9 l link tick k-x.2.2)=Cp ls link tick-A9 l link tick (k+1):=by rw[hstep,Ag (by omega) (by omega)];omega
     simp +contextual (maxSteps:=4000000) only[↓bdD,bdP,Nat.reduceLT,Nat.reduceBEq,Nat.reduceAdd,Store.new,Store.set,↓reduceIte,AH,ty3,AJ,BU,h43,h11,hlt,hx,e1,e2,hw1,hw2]
    ·rw [if_neg (fun h=>e2 h.2),Int.add_zero]at hstep
     simp +contextual (maxSteps:=4000000) only[↓bdD,bdP,Nat.reduceLT,Nat.reduceBEq,Nat.reduceAdd,Store.new,Store.set,↓reduceIte,AH,ty3,AJ,BU,h43,h11,hlt,hx,e1,e2,hw1,hstep]
   ·rw [if_neg (fun h=>e1 h.1),Int.add_zero]at hstep
    simp +contextual (maxSteps:=4000000) only[↓bdD,bdP,Nat.reduceLT,Nat.reduceBEq,Nat.reduceAdd,Store.new,Store.set,↓reduceIte,AH,ty3,AJ,BU,h43,h11,hlt,hx,e1,hw1,hstep]
  ·have e:k=l.length:=by omega
   subst e
   rw [hr]at h11
   simp +contextual (maxSteps:=4000000) only[↓bdD,bdP,Nat.reduceLT,Nat.reduceBEq,Ai,↓reduceIte,h43,h11]
theorem Adt:lY:=Adr Ads
end Sim
