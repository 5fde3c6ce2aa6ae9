/- What functions of this seat compute, by values: contracts (lemmas of the statement's proof, under the conditions that each names). -/
import Derived.Test.YtppljhpecoeakaaQN2
set_option maxRecDepth 10000
set_option maxHeartbeats 2000000
set_option linter.unusedVariables false
set_option linter.unusedSimpArgs false
namespace Sim
open Go Go.Proofs
attribute [local congr] Ap Aq Am AD As Ar Aw
structure OKr (hn:Int) (ls:List Lnk) (l:List Snd):Prop where
 net : OKn hn ls
 len : l.length≤2000
 link : ∀k,k<l.length→0≤(l.getD k dS).1∧(l.getD k dS).1<(ls.length:Int)
 tick : ∀k,k<l.length→0≤(l.getD k dS).2.1∧(l.getD k dS).2.1<1000000
 bytes : ∀k,k<l.length→1≤(l.getD k dS).2.2∧(l.getD k dS).2.2≤1073741824
 asc : ∀k,0<k→k<l.length→(l.getD (k-1) dS).2.1<(l.getD k dS).2.1∨((l.getD (k-1) dS).2.1=(l.getD k dS).2.1∧(l.getD (k-1) dS).1<(l.getD k dS).1)
theorem Tb {ls:List Lnk} {l:List Snd}:∀ {k},rgT ls l k=0↔∀i,i<k→S5 ls l i=0
 | 0=>⟨fun _ h g=>absurd g (by omega),fun _=>rfl⟩
 | k+1=>by
  have ih:=@Tb ls l k
  simp only[rgT]
  by_cases h:rgT ls l k=0
  ·rw [if_neg (fun hn=>hn h)]
   constructor
   ·intro hb i hi
    by_cases e:i=k
    ·subst e;exact hb
    ·exact ih.1 h i (by omega)
   ·intro g;exact g k (by omega)
  ·rw [if_pos h]
   exact ⟨fun g=>absurd g h,fun g=>absurd (ih.2 fun i hi=>g i (by omega)) h⟩
theorem sndE_zero {ls:List Lnk} {l:List Snd} {k:Nat}:S5 ls l k=0↔(0≤(l.getD k dS).1∧(l.getD k dS).1<(ls.length:Int))∧(0≤(l.getD k dS).2.1∧(l.getD k dS).2.1<1000000)∧(1≤(l.getD k dS).2.2∧(l.getD k dS).2.2≤1073741824)∧(0<k→(l.getD (k-1) dS).2.1<(l.getD k dS).2.1∨((l.getD (k-1) dS).2.1=(l.getD k dS).2.1∧(l.getD (k-1) dS).1<(l.getD k dS).1)):=by
 unfold S5
 generalize l.getD k dS=x
 generalize l.getD (k-1) dS=y
 split
 ·constructor
  ·intro h;cases h
  ·omega
 ·split
  ·constructor
   ·intro h;cases h
   ·omega
  ·split
   ·constructor
    ·intro h;cases h
    ·omega
   ·constructor
    ·intro; omega
    ·intro; rfl
theorem right_zero {hn:Int} {ls:List Lnk} {l:List Snd}:AR hn ls l=0↔OKr hn ls l:=by
 unfold AR
 split
 ·rename_i h
  exact ⟨fun g=>absurd g h,fun g=>absurd (check_zero.2 g.net) h⟩
 ·rename_i h
  have h:=check_zero.1 (Classical.not_not.1 h)
  split
  ·exact ⟨fun g=>(by cases g),fun g=>(by have:=g.len;omega)⟩
  ·rw [Tb]
   constructor
   ·intro g
    exact ⟨h,by omega,fun k hk=>(sndE_zero.1 (g k hk)).1,fun k hk=>(sndE_zero.1 (g k hk)).2.1,fun k hk=>(sndE_zero.1 (g k hk)).2.2.1,fun k h0 hk=>(sndE_zero.1 (g k hk)).2.2.2 h0⟩
   ·intro g k hk
    exact sndE_zero.2 ⟨g.link k hk,g.tick k hk,g.bytes k hk,fun h0=>g.asc k h0 hk⟩
def CT (ls:List Lnk) (link tick:Int):Int:=DJ (ls.getD link.toNat dL) (tick.toNat % 24)
def EG (ls:List Lnk) (link tick:Int):Int:=DZ (ls.getD link.toNat dL) (tick.toNat % 24)
theorem KE {t:Int} (h:0≤t):Int.tmod t 24=((t.toNat % 24:Nat):Int):=by
 rw [Int.tmod_eq_emod_of_nonneg h];omega
theorem DF {a:Int} {n:Nat} (h0:0≤a) (h:a<(n:Int)):a.toNat<n:=by omega
noncomputable def Tc:(Int)×(List Lnk)×(Int)×(Int)→List PV:=fun (hn,ls,link,tick) => [.agg [I hn,Ax ls],I link,I tick]
noncomputable def Aa3:(Int)×(List Lnk)×(Int)×(Int)→PV:=fun (hn,ls,link,tick)=>I (CT ls link tick)
def Aa4:(Int)×(List Lnk)×(Int)×(Int)→Prop:=fun (hn,ls,link,tick)=>0≤link∧link<(ls.length:Int)∧0≤tick
noncomputable def e_cap:Nat×Ent:=(69,.v (Ah Tc Aa3 Aa4))
theorem Ahk:∀i j,Tc i=Tc j→i=j:=by
 rintro ⟨hn₁,ls₁,link₁,tick₁⟩ ⟨hn₂,ls₂,link₂,tick₂⟩ h
 simp only[Tc,List.cons.injEq,and_true,PV.lits.injEq,PV.int.injEq,PV.agg.injEq,true_and,AF]at h
 simp [h] <;> omega
theorem lB (hn:Int) (ls:List Lnk) (link:Int) (tick:Int):Ah Tc Aa3 Aa4 [.agg [I hn,Ax ls],I link,I tick]=@ite (Option (PV)) (0≤link∧link<(ls.length:Int)∧0≤tick) (Classical.propDecidable _) (some (I (CT ls link tick))) none:=BP Ahk (hn,ls,link,tick)
def Aa5:Prop:=∀(hn:Int) (ls:List Lnk) (link:Int) (tick:Int) (h:0≤link∧link<(ls.length:Int)∧0≤tick) ,VC Try.prog 69 [.agg [I hn,Ax ls],I link,I tick] (I (CT ls link tick))
def Aa6:Prop:=AL Try.prog e_cap.1 e_cap.2
theorem Ahl (c:Aa5):Aa6:=At fun⟨hn,ls,link,tick⟩ h=>c hn ls link tick h
theorem Ahm:Aa5:=by
 rintro hn ls link tick ⟨h0,h1,h2⟩
 refine A5 AO (l := []) (Ao) [] []  Try.func69 rfl (by decide +kernel) (N:=16) rfl (by simp) rfl (by kernel_rfl) fun hs=>?_
 simp only[AI,PV.small,List.length_map,and_true,true_and]at hs
 unfold CT
 have h3:=KE h2
 have h4:tick.toNat % 24<24:=Nat.mod_lt _ (by omega)
 have h4i:((tick.toNat % 24:Nat):Int)<24:=by omega
 generalize tick.toNat % 24=h at *
 have h5:=DF h0 h1
 have h6:=Int.toNat_of_nonneg h0
 generalize link.toNat=k at *
 generalize hr:DJ (ls.getD k dL) h=r
 subst h6
 simp +contextual (maxSteps:=4000000) only[↓bdD,bdP,Nat.reduceLT,Nat.reduceBEq,Ai,Nat.reduceAdd,Int.reduceEq,st0,↓reduceIte,Br,CH,Nat.mul_one,Try.f69,ty3,BC,Av,Hn,Cg,h0,h1,h3,h4,h4i,h5,hr]
theorem Aa7:Aa6:=Ahl Ahm
noncomputable def MA:(Int)×(List Lnk)×(Int)×(Int)→List PV:=fun (hn,ls,link,tick) => [.agg [I hn,Ax ls],I link,I tick]
noncomputable def lC:(Int)×(List Lnk)×(Int)×(Int)→PV:=fun (hn,ls,link,tick)=>I (CT ls link tick)
def lE:(Int)×(List Lnk)×(Int)×(Int)→Prop:=fun (hn,ls,link,tick)=>0≤link∧link<(ls.length:Int)∧0≤tick
noncomputable def e_rcap:Nat×Ent:=(48,.v (Ah MA lC lE))
theorem Ac9:∀i j,MA i=MA j→i=j:=by
 rintro ⟨hn₁,ls₁,link₁,tick₁⟩ ⟨hn₂,ls₂,link₂,tick₂⟩ h
 simp only[MA,List.cons.injEq,and_true,PV.lits.injEq,PV.int.injEq,PV.agg.injEq,true_and,AF]at h
 simp [h] <;> omega
theorem Wj (hn:Int) (ls:List Lnk) (link:Int) (tick:Int):Ah MA lC lE [.agg [I hn,Ax ls],I link,I tick]=@ite (Option (PV)) (0≤link∧link<(ls.length:Int)∧0≤tick) (Classical.propDecidable _) (some (I (CT ls link tick))) none:=BP Ac9 (hn,ls,link,tick)
def lF:Prop:=∀(hn:Int) (ls:List Lnk) (link:Int) (tick:Int) (h:0≤link∧link<(ls.length:Int)∧0≤tick) ,VC Try.prog 48 [.agg [I hn,Ax ls],I link,I tick] (I (CT ls link tick))
def lG:Prop:=AL Try.prog e_rcap.1 e_rcap.2
theorem Ada (c:lF):lG:=At fun⟨hn,ls,link,tick⟩ h=>c hn ls link tick h
theorem Adb:lF:=by
 rintro hn ls link tick ⟨h0,h1,h2⟩
 refine A5 AO (l := []) (Ao) [] []  Try.func48 rfl (by decide +kernel) (N:=16) rfl (by simp) rfl (by kernel_rfl) fun hs=>?_
 simp only[AI,PV.small,List.length_map,and_true,true_and]at hs
 unfold CT
 have h3:=KE h2
 have h4:tick.toNat % 24<24:=Nat.mod_lt _ (by omega)
 have h4i:((tick.toNat % 24:Nat):Int)<24:=by omega
 generalize tick.toNat % 24=h at *
 have h5:=DF h0 h1
 have h6:=Int.toNat_of_nonneg h0
 generalize link.toNat=k at *
 generalize hr:DJ (ls.getD k dL) h=r
 subst h6
 simp +contextual (maxSteps:=4000000) only[↓bdD,bdP,Nat.reduceLT,Nat.reduceBEq,Ai,Nat.reduceAdd,Int.reduceEq,st0,↓reduceIte,Br,CH,Nat.mul_one,Try.f48,ty3,BC,Av,Hn,Cg,h0,h1,h3,h4,h4i,h5,hr]
theorem lH:lG:=Ada Adb
def ftT (ls:List Lnk) (l:List Snd):Nat→Bool
 | 0=>false
 | k+1=>ftT ls l k||decide (CT ls (l.getD k dS).1 (l.getD k dS).2.1<(l.getD k dS).2.2)
def Bz (hn:Int) (ls:List Lnk) (l:List Snd):Int:=if AR hn ls l≠0 then AR hn ls l else if ftT ls l l.length=true then 13 else 0
theorem Xh {ls:List Lnk} {l:List Snd} {k m:Nat} (h:ftT ls l k=true) (hk:k≤m):ftT ls l m=true:=by
 induction m with
 | zero=>rwa [show k=0 by omega]at h
 | succ m ih =>
  by_cases e:k=m+1
  ·rwa [←e]
  ·simp only[ftT,ih (by omega),Bool.true_or]
noncomputable def MC:(Int)×(List Lnk)×(List Snd)→List PV:=fun (hn,ls,l) => [.agg [I hn,Ax ls],AA l]
noncomputable def lI:(Int)×(List Lnk)×(List Snd)→PV:=fun (hn,ls,l)=>I (Bz hn ls l)
def lJ:(Int)×(List Lnk)×(List Snd)→Prop:=fun (hn,ls,l)=>True
noncomputable def e_fits:Nat×Ent:=(54,.v (Ah MC lI lJ))
theorem Adc:∀i j,MC i=MC j→i=j:=by
 rintro ⟨hn₁,ls₁,l₁⟩ ⟨hn₂,ls₂,l₂⟩ h
 simp only[MC,List.cons.injEq,and_true,PV.lits.injEq,PV.int.injEq,PV.agg.injEq,true_and,AN,AF]at h
 simp [h] <;> omega
theorem KF (hn:Int) (ls:List Lnk) (l:List Snd):Ah MC lI lJ [.agg [I hn,Ax ls],AA l]=some (I (Bz hn ls l)):=Ay Adc (i:=(hn,ls,l)) trivial
def lK:Prop:=∀(hn:Int) (ls:List Lnk) (l:List Snd) ,VC Try.prog 54 [.agg [I hn,Ax ls],AA l] (I (Bz hn ls l))
def lL:Prop:=AL Try.prog e_fits.1 e_fits.2
theorem Ade (c:lK):lL:=At fun⟨hn,ls,l⟩ h=>c hn ls l
theorem Adf:lK:=by
 intro hn ls l
 refine A5 AO (l := [e_right,e_cap]) ((Ad JR (Ad Aa7 Ao))) [27] []  Try.func54 rfl (by decide +kernel) (N:=30) rfl (by simp) rfl (by kernel_rfl) fun hs=>?_
 simp only[AI,PV.small,List.length_map,and_true,true_and]at hs
 by_cases h:AR hn ls l=0
 case neg =>
  rw [show Bz hn ls l=AR hn ls l by simp[Bz,h]]
  generalize hr:AR hn ls l=r at *
  simp +contextual (maxSteps:=4000000) only[↓bdD,bdP,Nat.reduceLT,Nat.reduceBEq,Ai,Nat.reduceAdd,st0,↓reduceIte,e_right,BT,e_cap,Ac,Ab,Try.f54,Av,AJ,h,hr]
 have ok:=right_zero.1 h
 have hlen:=ok.len
 rw [show Bz hn ls l=if ftT ls l l.length=true then 13 else 0 by simp[Bz,h]]
 generalize hr:(if ftT ls l l.length=true then (13:Int)else 0)=r
 simp +contextual (maxSteps:=4000000) only[↓bdD,bdP,Nat.reduceLT,Nat.reduceBEq,Nat.reduceAdd,st0,↓reduceIte,e_right,BT,e_cap,Ac,Ab,Try.f54,Av,AJ,h]
 refine Au [4,7,16,17,18,19,20,21,22,23,24,25,26,27,28,29] l.length (fun k ρ st'=>ρ 16=I k∧ftT ls l k=false) (.refl _) ?_ ?_
 ·simp +contextual (maxSteps:=4000000) only[↓bdD,bdP,ftT]
 ·rintro k ρ ⟨ob,M⟩ hk ⟨h16,hz⟩
  by_cases hlt:k<l.length
  ·have hw1:IntKind.i64.wrap ((k:Int)+1)=((k+1:Nat):Int):=by rw[Af (by omega) (by omega)];omega
   have e1:=ok.link k hlt
   have e2:=(ok.tick k hlt).1
   have hs:ftT ls l (k+1)=decide (CT ls (l.getD k dS).1 (l.getD k dS).2.1<(l.getD k dS).2.2):=by simp only[ftT,hz,Bool.false_or]
   generalize hx:l.getD k dS=x at *
   by_cases hb:CT ls x.1 x.2.1<x.2.2
   ·rw [decide_eq_true hb]at hs
    rw [if_pos (Xh hs (by omega))]at hr
    subst hr
    simp +contextual (maxSteps:=4000000) only[↓bdD,bdP,Nat.reduceLT,Nat.reduceBEq,Ai,Nat.reduceEqDiff,Nat.reduceAdd,Store.new,Store.set,↓reduceIte,lB,AH,Ab,ty3,Av,AJ,BV,h16,hlt,hx,e1,e2,hb]
   ·rw [decide_eq_false hb]at hs
    simp +contextual (maxSteps:=4000000) only[↓bdD,bdP,Nat.reduceLT,Nat.reduceBEq,Nat.reduceEqDiff,Nat.reduceAdd,Store.new,Store.set,↓reduceIte,lB,AH,Ab,ty3,Av,AJ,BV,h16,hlt,hx,e1,e2,hb,hs,hw1]
  ·have e:k=l.length:=by omega
   subst e
   rw [hz,if_neg (by simp)]at hr
   subst hr
   simp +contextual (maxSteps:=4000000) only[↓bdD,bdP,Nat.reduceLT,Nat.reduceBEq,Ai,↓reduceIte,h16]
theorem lM:lL:=Ade Adf
noncomputable def JS:(Int)×(List Lnk)×(List Snd)→List PV:=fun (hn,ls,l) => [.agg [I hn,Ax ls],AA l]
noncomputable def Xi:(Int)×(List Lnk)×(List Snd)→PV:=fun (hn,ls,l)=>I (Bz hn ls l)
def Xj:(Int)×(List Lnk)×(List Snd)→Prop:=fun (hn,ls,l)=>True
noncomputable def e_rfits:Nat×Ent:=(56,.v (Ah JS Xi Xj))
theorem xE:∀i j,JS i=JS j→i=j:=by
 rintro ⟨hn₁,ls₁,l₁⟩ ⟨hn₂,ls₂,l₂⟩ h
 simp only[JS,List.cons.injEq,and_true,PV.lits.injEq,PV.int.injEq,PV.agg.injEq,true_and,AN,AF]at h
 simp [h] <;> omega
theorem LA (hn:Int) (ls:List Lnk) (l:List Snd):Ah JS Xi Xj [.agg [I hn,Ax ls],AA l]=some (I (Bz hn ls l)):=Ay xE (i:=(hn,ls,l)) trivial
def Xk:Prop:=∀(hn:Int) (ls:List Lnk) (l:List Snd) ,VC Try.prog 56 [.agg [I hn,Ax ls],AA l] (I (Bz hn ls l))
def Xl:Prop:=AL Try.prog e_rfits.1 e_rfits.2
theorem xF (c:Xk):Xl:=At fun⟨hn,ls,l⟩ h=>c hn ls l
theorem xG:Xk:=by
 intro hn ls l
 refine A5 AO (l := [e_rright,e_rcap]) ((Ad Ta (Ad lH Ao))) [35] []  Try.func56 rfl (by decide +kernel) (N:=37) rfl (by simp) rfl (by kernel_rfl) fun hs=>?_
 simp only[AI,PV.small,List.length_map,and_true,true_and]at hs
 by_cases h:AR hn ls l=0
 case neg =>
  rw [show Bz hn ls l=AR hn ls l by simp[Bz,h]]
  generalize hr:AR hn ls l=r at *
  simp +contextual (maxSteps:=4000000) only[↓bdD,bdP,Nat.reduceLT,Nat.reduceBEq,Ai,Nat.reduceAdd,st0,↓reduceIte,e_rright,EY,e_rcap,Ac,Ab,Try.f56,Av,AJ,h,hr]
 have ok:=right_zero.1 h
 have hlen:=ok.len
 rw [show Bz hn ls l=if ftT ls l l.length=true then 13 else 0 by simp[Bz,h]]
 generalize hr:(if ftT ls l l.length=true then (13:Int)else 0)=r
 simp +contextual (maxSteps:=4000000) only[↓bdD,bdP,Nat.reduceLT,Nat.reduceBEq,Nat.reduceAdd,st0,↓reduceIte,e_rright,EY,e_rcap,Ac,Ab,Try.f56,Av,AJ,h]
 refine Au [4,6,13,14,15,16,17,18,19,20,21,22,23,24,25,26,27,28,29,30,31,32,33,34,35,36] l.length (fun k ρ st'=>ρ 6=I k∧ftT ls l k=false) (.refl _) ?_ ?_
 ·simp +contextual (maxSteps:=4000000) only[↓bdD,bdP,ftT]
 ·rintro k ρ ⟨ob,M⟩ hk ⟨h6,hz⟩
  by_cases hlt:k<l.length
  ·have hw1:IntKind.i64.wrap ((k:Int)+1)=((k+1:Nat):Int):=by rw[Af (by omega) (by omega)];omega
   have e1:=ok.link k hlt
   have e2:=(ok.tick k hlt).1
   have hs:ftT ls l (k+1)=decide (CT ls (l.getD k dS).1 (l.getD k dS).2.1<(l.getD k dS).2.2):=by simp only[ftT,hz,Bool.false_or]
   generalize hx:l.getD k dS=x at *
   by_cases hb:CT ls x.1 x.2.1<x.2.2
   ·rw [decide_eq_true hb]at hs
    rw [if_pos (Xh hs (by omega))]at hr
    subst hr
    simp +contextual (maxSteps:=4000000) only[↓bdD,bdP,Nat.reduceLT,Nat.reduceBEq,Ai,Nat.reduceEqDiff,Nat.reduceAdd,↓reduceIte,Wj,AH,Ab,ty3,Av,AJ,BV,h6,hlt,hx,e1,e2,hb]
   ·rw [decide_eq_false hb]at hs
    simp +contextual (maxSteps:=4000000) only[↓bdD,bdP,Nat.reduceLT,Nat.reduceBEq,Nat.reduceEqDiff,Nat.reduceAdd,↓reduceIte,Wj,AH,Ab,ty3,Av,AJ,BV,h6,hlt,hx,e1,e2,hb,hs,hw1]
  ·have e:k=l.length:=by omega
   subst e
   rw [hz,if_neg (by simp)]at hr
   subst hr
   simp +contextual (maxSteps:=4000000) only[↓bdD,bdP,Nat.reduceLT,Nat.reduceBEq,Ai,Nat.reduceAdd,↓reduceIte,AJ,h6]
theorem xH:Xl:=xF xG
end Sim
namespace Sim
open Go Go.Proofs
attribute [local congr] Ap Aq Am AD As Ar Aw
theorem JT {hn:Int} {ls:List Lnk} (h:OKn hn ls) {link tick:Int} (h0:0≤link) (h1:link<(ls.length:Int)):0≤EG ls link tick∧EG ls link tick≤1000000:=by
 have := h.hours link.toNat (tick.toNat % 24) (DF h0 h1) (Nat.mod_lt _ (by omega))
 exact ⟨this.2.2.1,this.2.2.2⟩
theorem EH {hn:Int} {ls:List Lnk} (h:OKn hn ls) {link tick:Int} (h0:0≤link) (h1:link<(ls.length:Int)):0≤CT ls link tick∧CT ls link tick≤1073741824:=by
 have := h.hours link.toNat (tick.toNat % 24) (DF h0 h1) (Nat.mod_lt _ (by omega))
 exact ⟨this.1,this.2.1⟩
def Fp (ls:List Lnk) (l:List Snd):Nat→Int
 | 0=>0
 | k+1=>Fp ls l k+(l.getD k dS).2.2*EG ls (l.getD k dS).1 (l.getD k dS).2.1
def FO (hn:Int) (ls:List Lnk) (l:List Snd):Int:=if AR hn ls l≠0 then 0 else Fp ls l l.length
theorem Ou {a b A B:Int} (h0:0≤a) (h1:a≤A) (h2:0≤b) (h3:b≤B):0≤a*b∧a*b≤A*B :=
 ⟨Int.mul_nonneg h0 h2,Int.mul_le_mul h1 h3 h2 (by omega)⟩
theorem Td {hn:Int} {ls:List Lnk} {l:List Snd} (ok:OKr hn ls l):∀k:Nat,k≤l.length→0≤Fp ls l k∧Fp ls l k≤1073741824000000*(k:Int)
 | 0,_=>⟨Int.le_refl _,by simp[Fp]⟩
 | k+1,h=>by
  have ih:=Td ok k (by omega)
  have h1:=ok.link k (by omega)
  have h2:=ok.bytes k (by omega)
  have h3:=JT ok.net h1.1 h1.2 (tick:=(l.getD k dS).2.1)
  have h4:=Ou (by omega) h2.2 h3.1 h3.2
  simp only[Fp]
  omega
theorem xI {hn:Int} {ls:List Lnk} {l:List Snd} (ok:OKr hn ls l) {k:Nat} (h:k<l.length):IntKind.i64.wrap ((l.getD k dS).2.2*EG ls (l.getD k dS).1 (l.getD k dS).2.1)=(l.getD k dS).2.2*EG ls (l.getD k dS).1 (l.getD k dS).2.1 ∧
  IntKind.i64.wrap (Fp ls l k+(l.getD k dS).2.2*EG ls (l.getD k dS).1 (l.getD k dS).2.1)=Fp ls l (k+1):=by
 have h0:=ok.len
 have h1:=ok.link k h
 have h2:=ok.bytes k h
 have h3:=JT ok.net h1.1 h1.2 (tick:=(l.getD k dS).2.1)
 have h4:=Ou (by omega) h2.2 h3.1 h3.2
 have h5:=Td ok k (by omega)
 exact ⟨Af (by omega) (by omega),Af (by omega) (by omega)⟩
noncomputable def MD:(Int)×(List Lnk)×(List Snd)→List PV:=fun (hn,ls,l) => [.agg [I hn,Ax ls],AA l]
noncomputable def lN:(Int)×(List Lnk)×(List Snd)→PV:=fun (hn,ls,l)=>.tuple [I (FO hn ls l),I (AR hn ls l)]
def lO:(Int)×(List Lnk)×(List Snd)→Prop:=fun (hn,ls,l)=>True
noncomputable def e_cost:Nat×Ent:=(25,.v (Ah MD lN lO))
theorem Adg:∀i j,MD i=MD j→i=j:=by
 rintro ⟨hn₁,ls₁,l₁⟩ ⟨hn₂,ls₂,l₂⟩ h
 simp only[MD,List.cons.injEq,and_true,PV.lits.injEq,PV.int.injEq,PV.agg.injEq,true_and,AN,AF]at h
 simp [h] <;> omega
theorem Adh (hn:Int) (ls:List Lnk) (l:List Snd):Ah MD lN lO [.agg [I hn,Ax ls],AA l]=some (.tuple [I (FO hn ls l),I (AR hn ls l)]):=Ay Adg (i:=(hn,ls,l)) trivial
def lP:Prop:=∀(hn:Int) (ls:List Lnk) (l:List Snd) ,VC Try.prog 25 [.agg [I hn,Ax ls],AA l] (.tuple [I (FO hn ls l),I (AR hn ls l)])
def lQ:Prop:=AL Try.prog e_cost.1 e_cost.2
theorem Adi (c:lP):lQ:=At fun⟨hn,ls,l⟩ h=>c hn ls l
theorem Adj:lP:=by
 intro hn ls l
 refine A5 AO (l := [e_right]) ((Ad JR Ao)) [] []  Try.func25 rfl (by decide +kernel) (N:=40) rfl (by simp) rfl (by kernel_rfl) fun hs=>?_
 simp only[AI,PV.small,List.length_map,and_true,true_and]at hs
 by_cases h:AR hn ls l=0
 case neg =>
  rw [show FO hn ls l=0 by simp[FO,h]]
  generalize hr:AR hn ls l=r at *
  simp +contextual (maxSteps:=4000000) only[↓bdD,bdP,Nat.reduceLT,Nat.reduceBEq,Ai,Nat.reduceAdd,st0,↓reduceIte,e_right,BT,Ac,Ab,Try.f25,Av,AJ,h,hr]
 have ok:=right_zero.1 h
 have hlen:=ok.len
 rw [show FO hn ls l=Fp ls l l.length by simp[FO,h],h]
 generalize hr:Fp ls l l.length=r
 simp +contextual (maxSteps:=4000000) only[↓bdD,bdP,Nat.reduceLT,Nat.reduceBEq,Nat.reduceAdd,st0,↓reduceIte,e_right,BT,Ac,Ab,Try.f25,Av,AJ,h]
 refine Au [7,9,18,19,20,21,22,23,24,25,26,27,28,29,30,31,32,33,34,35,36,37,38] l.length (fun k ρ st'=>ρ 18=I k∧ρ 7=I (Fp ls l k)) (.refl _) ?_ ?_
 ·simp +contextual (maxSteps:=4000000) only[↓bdD,bdP,Nat.reduceBEq,Fp]
 ·rintro k ρ ⟨ob,M⟩ hk ⟨h18,h7⟩
  by_cases hlt:k<l.length
  ·have hw1:IntKind.i64.wrap ((k:Int)+1)=((k+1:Nat):Int):=by rw[Af (by omega) (by omega)];omega
   have e1:=ok.link k hlt
   have e2:=(ok.tick k hlt).1
   have hw:=xI ok hlt
   generalize hx:l.getD k dS=x at *
   have h3:=KE e2
   have h4:x.2.1.toNat % 24<24:=Nat.mod_lt _ (by omega)
   have h4i:((x.2.1.toNat % 24:Nat):Int)<24:=by omega
   unfold EG at hw
   generalize x.2.1.toNat % 24=hh at *
   have h5:=DF e1.1 e1.2
   have h6:=Int.toNat_of_nonneg e1.1
   generalize x.1.toNat=kk at *
   simp +contextual (maxSteps:=4000000) only[↓bdD,bdP,Nat.reduceLT,Nat.reduceBEq,Nat.reduceAdd,Int.reduceEq,Store.new,Store.set,↓reduceIte,AH,Br,DQ,Nat.mul_one,ty3,BC,Av,AJ,Hn,Cg,BV,h18,h7,hlt,hx,h3,h4,h4i,h5,←h6,hw,hw1]
  ·have e:k=l.length:=by omega
   subst e
   rw [hr]at h7
   simp +contextual (maxSteps:=4000000) only[↓bdD,bdP,Nat.reduceLT,Nat.reduceBEq,Ai,↓reduceIte,h18,h7]
theorem Adk:lQ:=Adi Adj
def Bb (l:List Snd) (link tick:Int):Nat→Int
 | 0=>0
 | k+1=>Bb l link tick k+if (l.getD k dS).1=link∧(l.getD k dS).2.1=tick then (l.getD k dS).2.2 else 0
def D3 (hn:Int) (ls:List Lnk) (l:List Snd) (link tick:Int):Int×Int :=
 if AR hn ls l≠0 then (0,AR hn ls l)else if link<0∨(ls.length:Int)≤link∨tick<0∨1000000≤tick then (0,1)else (CT ls link tick-Bb l link tick l.length,0)
def smB (l:List Snd):Prop:=l.length≤2000∧∀k,k<l.length→1≤(l.getD k dS).2.2∧(l.getD k dS).2.2≤1073741824
theorem ME {l:List Snd} (h:smB l) (link tick:Int):∀k:Nat,k≤l.length→0≤Bb l link tick k∧Bb l link tick k≤1073741824*(k:Int)
 | 0,_=>⟨Int.le_refl _,by simp[Bb]⟩
 | k+1,hk=>by
  have ih:=ME h link tick k (by omega)
  have h2:=h.2 k (by omega)
  simp only[Bb]
  split <;> omega
theorem OKr.smB {hn:Int} {ls:List Lnk} {l:List Snd} (h:OKr hn ls l):smB l:=⟨h.len,h.bytes⟩
noncomputable def MF:(Int)×(List Lnk)×(List Snd)×(Int)×(Int)→List PV:=fun (hn,ls,l,link,tick) => [.agg [I hn,Ax ls],AA l,I link,I tick]
noncomputable def lR:(Int)×(List Lnk)×(List Snd)×(Int)×(Int)→PV:=fun (hn,ls,l,link,tick)=>.tuple [I (D3 hn ls l link tick).1,I (D3 hn ls l link tick).2]
def lS:(Int)×(List Lnk)×(List Snd)×(Int)×(Int)→Prop:=fun (hn,ls,l,link,tick)=>True
noncomputable def e_left:Nat×Ent:=(61,.v (Ah MF lR lS))
theorem Adl:∀i j,MF i=MF j→i=j:=by
 rintro ⟨hn₁,ls₁,l₁,link₁,tick₁⟩ ⟨hn₂,ls₂,l₂,link₂,tick₂⟩ h
 simp only[MF,List.cons.injEq,and_true,PV.lits.injEq,PV.int.injEq,PV.agg.injEq,true_and,AN,AF]at h
 simp [h] <;> omega
theorem Adm (hn:Int) (ls:List Lnk) (l:List Snd) (link:Int) (tick:Int):Ah MF lR lS [.agg [I hn,Ax ls],AA l,I link,I tick]=some (.tuple [I (D3 hn ls l link tick).1,I (D3 hn ls l link tick).2]):=Ay Adl (i:=(hn,ls,l,link,tick)) trivial
def lT:Prop:=∀(hn:Int) (ls:List Lnk) (l:List Snd) (link:Int) (tick:Int) ,VC Try.prog 61 [.agg [I hn,Ax ls],AA l,I link,I tick] (.tuple [I (D3 hn ls l link tick).1,I (D3 hn ls l link tick).2])
def lU:Prop:=AL Try.prog e_left.1 e_left.2
theorem Adn (c:lT):lU:=At fun⟨hn,ls,l,link,tick⟩ h=>c hn ls l link tick
theorem Ado:lT:=by
 intro hn ls l link tick
 refine A5 AO (l := [e_right,e_cap]) ((Ad JR (Ad Aa7 Ao))) [] []  Try.func61 rfl (by decide +kernel) (N:=63) rfl (by simp) rfl (by kernel_rfl) fun hs=>?_
 simp only[AI,PV.small,List.length_map,and_true,true_and]at hs
 by_cases h:AR hn ls l=0
 case neg =>
  rw [show D3 hn ls l link tick=(0,AR hn ls l) by simp[D3,h]]
  generalize hr:AR hn ls l=r at *
  simp +contextual (maxSteps:=4000000) only[↓bdD,bdP,Nat.reduceLT,Nat.reduceBEq,Ai,Nat.reduceAdd,st0,↓reduceIte,e_right,BT,e_cap,Ac,Ab,Try.f61,Av,AJ,h,hr]
 have ok:=right_zero.1 h
 have hlen:=ok.len
 by_cases hb:link<0∨(ls.length:Int)≤link∨tick<0∨1000000≤tick
 ·rw [show D3 hn ls l link tick=(0,1) by simp only[D3,h,ne_eq,not_true_eq_false,if_false];rw[if_pos hb]]
  have e:link<0∨(¬link<0∧(ls.length:Int)≤link)∨(¬link<0∧¬(ls.length:Int)≤link∧tick<0)∨(¬link<0∧¬(ls.length:Int)≤link∧¬tick<0∧1000000≤tick):=by omega
  rcases e with e | e | e | e
  ·simp +contextual (maxSteps:=4000000) only[↓bdD,bdP,Nat.reduceLT,Nat.reduceBEq,Ai,Nat.reduceAdd,st0,↓reduceIte,e_right,BT,e_cap,Ac,Ab,Try.f61,Av,AJ,h,e]
  ·simp +contextual (maxSteps:=4000000) only[↓bdD,bdP,Nat.reduceLT,Nat.reduceBEq,Ai,Nat.reduceAdd,st0,↓reduceIte,e_right,BT,e_cap,Ac,Ab,Try.f61,BC,Av,AJ,h,e]
  ·simp +contextual (maxSteps:=4000000) only[↓bdD,bdP,Nat.reduceLT,Nat.reduceBEq,Ai,Nat.reduceAdd,st0,↓reduceIte,e_right,BT,e_cap,Ac,Ab,Try.f61,BC,Av,AJ,h,e]
  ·simp +contextual (maxSteps:=4000000) only[↓bdD,bdP,Nat.reduceLT,Nat.reduceBEq,Ai,Nat.reduceAdd,st0,↓reduceIte,e_right,BT,e_cap,Ac,Ab,Try.f61,BC,Av,AJ,h,e]
 rw [show D3 hn ls l link tick=(CT ls link tick-Bb l link tick l.length,0) by simp only[D3,h,ne_eq,not_true_eq_false,if_false];rw[if_neg hb]]
 have e:¬link<0∧¬(ls.length:Int)≤link∧¬tick<0∧¬1000000≤tick∧0≤link∧link<(ls.length:Int)∧0≤tick:=by omega
 have hcap:=EH ok.net e.2.2.2.2.1 e.2.2.2.2.2.1 (tick:=tick)
 have hb:=ok.smB
 generalize hr:CT ls link tick-Bb l link tick l.length=r
 simp +contextual (maxSteps:=4000000) only[↓bdD,bdP,Nat.reduceLT,Nat.reduceBEq,Nat.reduceEqDiff,Nat.reduceAdd,st0,↓reduceIte,e_right,BT,e_cap,lB,Ac,Ab,Try.f61,ty3,BC,Av,AJ,h,e]
 refine Au [11,13,43,44,45,46,47,48,49,50,51,52,53,54,55,56,57,58,59,60,61] l.length (fun k ρ st'=>ρ 43=I k∧ρ 11=I (CT ls link tick-Bb l link tick k)) (.refl _) ?_ ?_
 ·simp +contextual (maxSteps:=4000000) only[↓bdD,bdP,Nat.reduceBEq,Bb,Int.sub_zero]
 ·rintro k ρ ⟨ob,M⟩ hk ⟨h43,h11⟩
  by_cases hlt:k<l.length
  ·have hw1:IntKind.i64.wrap ((k:Int)+1)=((k+1:Nat):Int):=by rw[Af (by omega) (by omega)];omega
   have hs:=ME hb link tick k hk
   have hbk:=hb.2 k hlt
   have hstep:Bb l link tick (k+1)=Bb l link tick k+if (l.getD k dS).1=link∧(l.getD k dS).2.1=tick then (l.getD k dS).2.2 else 0:=rfl
   generalize hx:l.getD k dS=x at *
   by_cases e1:x.1=link
   ·by_cases e2:x.2.1=tick
    ·rw [if_pos ⟨e1,e2⟩]at hstep
     have hw2:IntKind.i64.wrap (CT ls link tick-Bb l link tick k-x.2.2)=CT ls link tick-Bb l link tick (k+1):=by rw[hstep,Af (by omega) (by omega)];omega
     simp +contextual (maxSteps:=4000000) only[↓bdD,bdP,Nat.reduceLT,Nat.reduceBEq,Nat.reduceAdd,Store.new,Store.set,↓reduceIte,AH,ty3,AJ,BV,h43,h11,hlt,hx,e1,e2,hw1,hw2]
    ·rw [if_neg (fun h=>e2 h.2),Int.add_zero]at hstep
     simp +contextual (maxSteps:=4000000) only[↓bdD,bdP,Nat.reduceLT,Nat.reduceBEq,Nat.reduceAdd,Store.new,Store.set,↓reduceIte,AH,ty3,AJ,BV,h43,h11,hlt,hx,e1,e2,hw1,hstep]
   ·rw [if_neg (fun h=>e1 h.1),Int.add_zero]at hstep
    simp +contextual (maxSteps:=4000000) only[↓bdD,bdP,Nat.reduceLT,Nat.reduceBEq,Nat.reduceAdd,Store.new,Store.set,↓reduceIte,AH,ty3,AJ,BV,h43,h11,hlt,hx,e1,hw1,hstep]
  ·have e:k=l.length:=by omega
   subst e
   rw [hr]at h11
   simp +contextual (maxSteps:=4000000) only[↓bdD,bdP,Nat.reduceLT,Nat.reduceBEq,Ai,↓reduceIte,h43,h11]
theorem Adp:lU:=Adn Ado
end Sim
