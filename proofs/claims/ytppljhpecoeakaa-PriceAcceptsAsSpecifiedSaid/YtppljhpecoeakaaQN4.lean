/- What functions of this seat compute, by values: contracts (lemmas of the statement's proof, under the conditions that each names). -/
import Derived.Test.YtppljhpecoeakaaQN2
set_option maxRecDepth 10000
set_option maxHeartbeats 2000000
set_option linter.unusedVariables false
set_option linter.unusedSimpArgs false
namespace Sim
open Go Go.Proofs
attribute [local congr] As At Am AI Av Au AA
structure OKr (hn:Int) (ls:List Lnk) (l:List Snd):Prop where
 net : OKn hn ls
 len : l.length≤2000
 link : ∀k,k<l.length→0≤(l.getD k dS).1∧(l.getD k dS).1<(ls.length:Int)
 tick : ∀k,k<l.length→0≤(l.getD k dS).2.1∧(l.getD k dS).2.1<1000000
 bytes : ∀k,k<l.length→1≤(l.getD k dS).2.2∧(l.getD k dS).2.2≤1073741824
 asc : ∀k,0<k→k<l.length→(l.getD (k-1) dS).2.1<(l.getD k dS).2.1∨((l.getD (k-1) dS).2.1=(l.getD k dS).2.1∧(l.getD (k-1) dS).1<(l.getD k dS).1)
theorem Tz {ls:List Lnk} {l:List Snd}:∀ {k},rgT ls l k=0↔∀i,i<k→Tu ls l i=0
 | 0=>⟨fun _ h g=>absurd g (by omega),fun _=>rfl⟩
 | k+1=>by
  have ih:=@Tz ls l k
  simp only[rgT]
  by_cases h:rgT ls l k=0
  ·rw [if_neg (fun hn=>hn h)]
   constructor
   ·intro hb i hi
    by_cases e:i=k
    ·subst e;exact hb
    ·exact ih.1 h i (by omega)
   ·intro g;exact g k (by omega)
  ·rw [if_pos h]
   exact ⟨fun g=>absurd g h,fun g=>absurd (ih.2 fun i hi=>g i (by omega)) h⟩
theorem sndE_zero {ls:List Lnk} {l:List Snd} {k:Nat}:Tu ls l k=0↔(0≤(l.getD k dS).1∧(l.getD k dS).1<(ls.length:Int))∧(0≤(l.getD k dS).2.1∧(l.getD k dS).2.1<1000000)∧(1≤(l.getD k dS).2.2∧(l.getD k dS).2.2≤1073741824)∧(0<k→(l.getD (k-1) dS).2.1<(l.getD k dS).2.1∨((l.getD (k-1) dS).2.1=(l.getD k dS).2.1∧(l.getD (k-1) dS).1<(l.getD k dS).1)):=by
 unfold Tu
 generalize l.getD k dS=x
 generalize l.getD (k-1) dS=y
 split
 ·constructor
  ·intro h;cases h
  ·omega
 ·split
  ·constructor
   ·intro h;cases h
   ·omega
  ·split
   ·constructor
    ·intro h;cases h
    ·omega
   ·constructor
    ·intro; omega
    ·intro; rfl
theorem right_zero {hn:Int} {ls:List Lnk} {l:List Snd}:AL hn ls l=0↔OKr hn ls l:=by
 unfold AL
 split
 ·rename_i h
  exact ⟨fun g=>absurd g h,fun g=>absurd (check_zero.2 g.net) h⟩
 ·rename_i h
  have h:=check_zero.1 (Classical.not_not.1 h)
  split
  ·exact ⟨fun g=>(by cases g),fun g=>(by have:=g.len;omega)⟩
  ·rw [Tz]
   constructor
   ·intro g
    exact ⟨h,by omega,fun k hk=>(sndE_zero.1 (g k hk)).1,fun k hk=>(sndE_zero.1 (g k hk)).2.1,fun k hk=>(sndE_zero.1 (g k hk)).2.2.1,fun k h0 hk=>(sndE_zero.1 (g k hk)).2.2.2 h0⟩
   ·intro g k hk
    exact sndE_zero.2 ⟨g.link k hk,g.tick k hk,g.bytes k hk,fun h0=>g.asc k h0 hk⟩
def CW (ls:List Lnk) (link tick:Int):Int:=DO (ls.getD link.toNat dL) (tick.toNat % 24)
def EA (ls:List Lnk) (link tick:Int):Int:=D5 (ls.getD link.toNat dL) (tick.toNat % 24)
theorem I3 {t:Int} (h:0≤t):Int.tmod t 24=((t.toNat % 24:Nat):Int):=by
 rw [Int.tmod_eq_emod_of_nonneg h];omega
theorem Ci {a:Int} {n:Nat} (h0:0≤a) (h:a<(n:Int)):a.toNat<n:=by omega
noncomputable def TA:(Int)×(List Lnk)×(Int)×(Int)→List PV:=fun (hn,ls,link,tick) => [.agg [I hn,Ax ls],I link,I tick]
noncomputable def Ace:(Int)×(List Lnk)×(Int)×(Int)→PV:=fun (hn,ls,link,tick)=>I (CW ls link tick)
def Acf:(Int)×(List Lnk)×(Int)×(Int)→Prop:=fun (hn,ls,link,tick)=>0≤link∧link<(ls.length:Int)∧0≤tick
noncomputable def e_cap:Nat×Ent:=(69,.v (Ag TA Ace Acf))
theorem Ai1:∀i j,TA i=TA j→i=j:=by
 rintro ⟨hn₁,ls₁,link₁,tick₁⟩ ⟨hn₂,ls₂,link₂,tick₂⟩ h
 simp only[TA,List.cons.injEq,and_true,PV.lits.injEq,PV.int.injEq,PV.agg.injEq,true_and,AD]at h
 simp [h] <;> omega
theorem mS (hn:Int) (ls:List Lnk) (link:Int) (tick:Int):Ag TA Ace Acf [.agg [I hn,Ax ls],I link,I tick]=@ite (Option (PV)) (0≤link∧link<(ls.length:Int)∧0≤tick) (Classical.propDecidable _) (some (I (CW ls link tick))) none:=BF Ai1 (hn,ls,link,tick)
def Acg:Prop:=∀(hn:Int) (ls:List Lnk) (link:Int) (tick:Int) (h:0≤link∧link<(ls.length:Int)∧0≤tick) ,VC Try.prog 69 [.agg [I hn,Ax ls],I link,I tick] (I (CW ls link tick))
def Ach:Prop:=AM Try.prog e_cap.1 e_cap.2
theorem Ai2 (c:Acg):Ach:=Ao fun⟨hn,ls,link,tick⟩ h=>c hn ls link tick h
theorem Ai3:Acg:=by
 rintro hn ls link tick ⟨h0,h1,h2⟩
 refine AW AO (l := []) (An) [] []  Try.func69 rfl (by decide +kernel) (N:=16) rfl (by simp) rfl (by kernel_rfl) fun hs=>?_
 simp only[AH,PV.small,List.length_map,and_true,true_and]at hs
 unfold CW
 have h3:=I3 h2
 have h4:tick.toNat % 24<24:=Nat.mod_lt _ (by omega)
 have h4i:((tick.toNat % 24:Nat):Int)<24:=by omega
 generalize tick.toNat % 24=h at *
 have h5:=Ci h0 h1
 have h6:=Int.toNat_of_nonneg h0
 generalize link.toNat=k at *
 generalize hr:DO (ls.getD k dL) h=r
 subst h6
 simp +contextual (maxSteps:=4000000) only[↓bdD,bdP,Nat.reduceLT,Nat.reduceBEq,Ai,Nat.reduceAdd,Int.reduceEq,st0,↓reduceIte,A7,CJ,Nat.mul_one,Try.f69,ty3,Bq,Aq,GY,B0,h0,h1,h3,h4,h4i,h5,hr]
theorem Aci:Ach:=Ai2 Ai3
noncomputable def MJ:(Int)×(List Lnk)×(Int)×(Int)→List PV:=fun (hn,ls,link,tick) => [.agg [I hn,Ax ls],I link,I tick]
noncomputable def mT:(Int)×(List Lnk)×(Int)×(Int)→PV:=fun (hn,ls,link,tick)=>I (CW ls link tick)
def mU:(Int)×(List Lnk)×(Int)×(Int)→Prop:=fun (hn,ls,link,tick)=>0≤link∧link<(ls.length:Int)∧0≤tick
noncomputable def e_rcap:Nat×Ent:=(48,.v (Ag MJ mT mU))
theorem Aek:∀i j,MJ i=MJ j→i=j:=by
 rintro ⟨hn₁,ls₁,link₁,tick₁⟩ ⟨hn₂,ls₂,link₂,tick₂⟩ h
 simp only[MJ,List.cons.injEq,and_true,PV.lits.injEq,PV.int.injEq,PV.agg.injEq,true_and,AD]at h
 simp [h] <;> omega
theorem WI (hn:Int) (ls:List Lnk) (link:Int) (tick:Int):Ag MJ mT mU [.agg [I hn,Ax ls],I link,I tick]=@ite (Option (PV)) (0≤link∧link<(ls.length:Int)∧0≤tick) (Classical.propDecidable _) (some (I (CW ls link tick))) none:=BF Aek (hn,ls,link,tick)
def mV:Prop:=∀(hn:Int) (ls:List Lnk) (link:Int) (tick:Int) (h:0≤link∧link<(ls.length:Int)∧0≤tick) ,VC Try.prog 48 [.agg [I hn,Ax ls],I link,I tick] (I (CW ls link tick))
def mW:Prop:=AM Try.prog e_rcap.1 e_rcap.2
theorem Ael (c:mV):mW:=Ao fun⟨hn,ls,link,tick⟩ h=>c hn ls link tick h
theorem Aem:mV:=by
 rintro hn ls link tick ⟨h0,h1,h2⟩
 refine AW AO (l := []) (An) [] []  Try.func48 rfl (by decide +kernel) (N:=16) rfl (by simp) rfl (by kernel_rfl) fun hs=>?_
 simp only[AH,PV.small,List.length_map,and_true,true_and]at hs
 unfold CW
 have h3:=I3 h2
 have h4:tick.toNat % 24<24:=Nat.mod_lt _ (by omega)
 have h4i:((tick.toNat % 24:Nat):Int)<24:=by omega
 generalize tick.toNat % 24=h at *
 have h5:=Ci h0 h1
 have h6:=Int.toNat_of_nonneg h0
 generalize link.toNat=k at *
 generalize hr:DO (ls.getD k dL) h=r
 subst h6
 simp +contextual (maxSteps:=4000000) only[↓bdD,bdP,Nat.reduceLT,Nat.reduceBEq,Ai,Nat.reduceAdd,Int.reduceEq,st0,↓reduceIte,A7,CJ,Nat.mul_one,Try.f48,ty3,Bq,Aq,GY,B0,h0,h1,h3,h4,h4i,h5,hr]
theorem mX:mW:=Ael Aem
def ftT (ls:List Lnk) (l:List Snd):Nat→Bool
 | 0=>false
 | k+1=>ftT ls l k||decide (CW ls (l.getD k dS).1 (l.getD k dS).2.1<(l.getD k dS).2.2)
def Br (hn:Int) (ls:List Lnk) (l:List Snd):Int:=if AL hn ls l≠0 then AL hn ls l else if ftT ls l l.length=true then 13 else 0
theorem XD {ls:List Lnk} {l:List Snd} {k m:Nat} (h:ftT ls l k=true) (hk:k≤m):ftT ls l m=true:=by
 induction m with
 | zero=>rwa [show k=0 by omega]at h
 | succ m ih =>
  by_cases e:k=m+1
  ·rwa [←e]
  ·simp only[ftT,ih (by omega),Bool.true_or]
noncomputable def ML:(Int)×(List Lnk)×(List Snd)→List PV:=fun (hn,ls,l) => [.agg [I hn,Ax ls],Aw l]
noncomputable def mY:(Int)×(List Lnk)×(List Snd)→PV:=fun (hn,ls,l)=>I (Br hn ls l)
def mZ:(Int)×(List Lnk)×(List Snd)→Prop:=fun (hn,ls,l)=>True
noncomputable def e_fits:Nat×Ent:=(54,.v (Ag ML mY mZ))
theorem Aen:∀i j,ML i=ML j→i=j:=by
 rintro ⟨hn₁,ls₁,l₁⟩ ⟨hn₂,ls₂,l₂⟩ h
 simp only[ML,List.cons.injEq,and_true,PV.lits.injEq,PV.int.injEq,PV.agg.injEq,true_and,AK,AD]at h
 simp [h] <;> omega
theorem KM (hn:Int) (ls:List Lnk) (l:List Snd):Ag ML mY mZ [.agg [I hn,Ax ls],Aw l]=some (I (Br hn ls l)):=Az Aen (i:=(hn,ls,l)) trivial
def nA:Prop:=∀(hn:Int) (ls:List Lnk) (l:List Snd) ,VC Try.prog 54 [.agg [I hn,Ax ls],Aw l] (I (Br hn ls l))
def nB:Prop:=AM Try.prog e_fits.1 e_fits.2
theorem Aeo (c:nA):nB:=Ao fun⟨hn,ls,l⟩ h=>c hn ls l
theorem Aep:nA:=by
 intro hn ls l
 refine AW AO (l := [e_right,e_cap]) ((Ad JV (Ad Aci An))) [27] []  Try.func54 rfl (by decide +kernel) (N:=30) rfl (by simp) rfl (by kernel_rfl) fun hs=>?_
 simp only[AH,PV.small,List.length_map,and_true,true_and]at hs
 by_cases h:AL hn ls l=0
 case neg =>
  rw [show Br hn ls l=AL hn ls l by simp[Br,h]]
  generalize hr:AL hn ls l=r at *
  simp +contextual (maxSteps:=4000000) only[↓bdD,bdP,Nat.reduceLT,Nat.reduceBEq,Ai,Nat.reduceAdd,st0,↓reduceIte,e_right,BX,e_cap,Ac,Ab,Try.f54,Aq,AB,h,hr]
 have ok:=right_zero.1 h
 have hlen:=ok.len
 rw [show Br hn ls l=if ftT ls l l.length=true then 13 else 0 by simp[Br,h]]
 generalize hr:(if ftT ls l l.length=true then (13:Int)else 0)=r
 simp +contextual (maxSteps:=4000000) only[↓bdD,bdP,Nat.reduceLT,Nat.reduceBEq,Nat.reduceAdd,st0,↓reduceIte,e_right,BX,e_cap,Ac,Ab,Try.f54,Aq,AB,h]
 refine Ar [4,7,16,17,18,19,20,21,22,23,24,25,26,27,28,29] l.length (fun k ρ st'=>ρ 16=I k∧ftT ls l k=false) (.refl _) ?_ ?_
 ·simp +contextual (maxSteps:=4000000) only[↓bdD,bdP,ftT]
 ·rintro k ρ ⟨ob,M⟩ hk ⟨h16,hz⟩
  by_cases hlt:k<l.length
  ·have hw1:IntKind.i64.wrap ((k:Int)+1)=((k+1:Nat):Int):=by rw[Af (by omega) (by omega)];omega
   have e1:=ok.link k hlt
   have e2:=(ok.tick k hlt).1
   have hs:ftT ls l (k+1)=decide (CW ls (l.getD k dS).1 (l.getD k dS).2.1<(l.getD k dS).2.2):=by simp only[ftT,hz,Bool.false_or]
   generalize hx:l.getD k dS=x at *
   by_cases hb:CW ls x.1 x.2.1<x.2.2
   ·rw [decide_eq_true hb]at hs
    rw [if_pos (XD hs (by omega))]at hr
    subst hr
    simp +contextual (maxSteps:=4000000) only[↓bdD,bdP,Nat.reduceLT,Nat.reduceBEq,Ai,Nat.reduceEqDiff,Nat.reduceAdd,Store.new,Store.set,↓reduceIte,mS,Ay,Ab,ty3,Aq,AB,Bv,h16,hlt,hx,e1,e2,hb]
   ·rw [decide_eq_false hb]at hs
    simp +contextual (maxSteps:=4000000) only[↓bdD,bdP,Nat.reduceLT,Nat.reduceBEq,Nat.reduceEqDiff,Nat.reduceAdd,Store.new,Store.set,↓reduceIte,mS,Ay,Ab,ty3,Aq,AB,Bv,h16,hlt,hx,e1,e2,hb,hs,hw1]
  ·have e:k=l.length:=by omega
   subst e
   rw [hz,if_neg (by simp)]at hr
   subst hr
   simp +contextual (maxSteps:=4000000) only[↓bdD,bdP,Nat.reduceLT,Nat.reduceBEq,Ai,↓reduceIte,h16]
theorem nC:nB:=Aeo Aep
noncomputable def JX:(Int)×(List Lnk)×(List Snd)→List PV:=fun (hn,ls,l) => [.agg [I hn,Ax ls],Aw l]
noncomputable def XE:(Int)×(List Lnk)×(List Snd)→PV:=fun (hn,ls,l)=>I (Br hn ls l)
def XF:(Int)×(List Lnk)×(List Snd)→Prop:=fun (hn,ls,l)=>True
noncomputable def e_rfits:Nat×Ent:=(56,.v (Ag JX XE XF))
theorem zA:∀i j,JX i=JX j→i=j:=by
 rintro ⟨hn₁,ls₁,l₁⟩ ⟨hn₂,ls₂,l₂⟩ h
 simp only[JX,List.cons.injEq,and_true,PV.lits.injEq,PV.int.injEq,PV.agg.injEq,true_and,AK,AD]at h
 simp [h] <;> omega
theorem Ib (hn:Int) (ls:List Lnk) (l:List Snd):Ag JX XE XF [.agg [I hn,Ax ls],Aw l]=some (I (Br hn ls l)):=Az zA (i:=(hn,ls,l)) trivial
def XG:Prop:=∀(hn:Int) (ls:List Lnk) (l:List Snd) ,VC Try.prog 56 [.agg [I hn,Ax ls],Aw l] (I (Br hn ls l))
def XH:Prop:=AM Try.prog e_rfits.1 e_rfits.2
theorem zB (c:XG):XH:=Ao fun⟨hn,ls,l⟩ h=>c hn ls l
theorem zC:XG:=by
 intro hn ls l
 refine AW AO (l := [e_rright,e_rcap]) ((Ad JW (Ad mX An))) [35] []  Try.func56 rfl (by decide +kernel) (N:=37) rfl (by simp) rfl (by kernel_rfl) fun hs=>?_
 simp only[AH,PV.small,List.length_map,and_true,true_and]at hs
 by_cases h:AL hn ls l=0
 case neg =>
  rw [show Br hn ls l=AL hn ls l by simp[Br,h]]
  generalize hr:AL hn ls l=r at *
  simp +contextual (maxSteps:=4000000) only[↓bdD,bdP,Nat.reduceLT,Nat.reduceBEq,Ai,Nat.reduceAdd,st0,↓reduceIte,e_rright,Cz,e_rcap,Ac,Ab,Try.f56,Aq,AB,h,hr]
 have ok:=right_zero.1 h
 have hlen:=ok.len
 rw [show Br hn ls l=if ftT ls l l.length=true then 13 else 0 by simp[Br,h]]
 generalize hr:(if ftT ls l l.length=true then (13:Int)else 0)=r
 simp +contextual (maxSteps:=4000000) only[↓bdD,bdP,Nat.reduceLT,Nat.reduceBEq,Nat.reduceAdd,st0,↓reduceIte,e_rright,Cz,e_rcap,Ac,Ab,Try.f56,Aq,AB,h]
 refine Ar [4,6,13,14,15,16,17,18,19,20,21,22,23,24,25,26,27,28,29,30,31,32,33,34,35,36] l.length (fun k ρ st'=>ρ 6=I k∧ftT ls l k=false) (.refl _) ?_ ?_
 ·simp +contextual (maxSteps:=4000000) only[↓bdD,bdP,ftT]
 ·rintro k ρ ⟨ob,M⟩ hk ⟨h6,hz⟩
  by_cases hlt:k<l.length
  ·have hw1:IntKind.i64.wrap ((k:Int)+1)=((k+1:Nat):Int):=by rw[Af (by omega) (by omega)];omega
   have e1:=ok.link k hlt
   have e2:=(ok.tick k hlt).1
   have hs:ftT ls l (k+1)=decide (CW ls (l.getD k dS).1 (l.getD k dS).2.1<(l.getD k dS).2.2):=by simp only[ftT,hz,Bool.false_or]
   generalize hx:l.getD k dS=x at *
   by_cases hb:CW ls x.1 x.2.1<x.2.2
   ·rw [decide_eq_true hb]at hs
    rw [if_pos (XD hs (by omega))]at hr
    subst hr
    simp +contextual (maxSteps:=4000000) only[↓bdD,bdP,Nat.reduceLT,Nat.reduceBEq,Ai,Nat.reduceEqDiff,Nat.reduceAdd,↓reduceIte,WI,Ay,Ab,ty3,Aq,AB,Bv,h6,hlt,hx,e1,e2,hb]
   ·rw [decide_eq_false hb]at hs
    simp +contextual (maxSteps:=4000000) only[↓bdD,bdP,Nat.reduceLT,Nat.reduceBEq,Nat.reduceEqDiff,Nat.reduceAdd,↓reduceIte,WI,Ay,Ab,ty3,Aq,AB,Bv,h6,hlt,hx,e1,e2,hb,hs,hw1]
  ·have e:k=l.length:=by omega
   subst e
   rw [hz,if_neg (by simp)]at hr
   subst hr
   simp +contextual (maxSteps:=4000000) only[↓bdD,bdP,Nat.reduceLT,Nat.reduceBEq,Ai,Nat.reduceAdd,↓reduceIte,AB,h6]
theorem XI:XH:=zB zC
end Sim
namespace Sim
open Go Go.Proofs
attribute [local congr] As At Am AI Av Au AA
theorem JY {hn:Int} {ls:List Lnk} (h:OKn hn ls) {link tick:Int} (h0:0≤link) (h1:link<(ls.length:Int)):0≤EA ls link tick∧EA ls link tick≤1000000:=by
 have := h.hours link.toNat (tick.toNat % 24) (Ci h0 h1) (Nat.mod_lt _ (by omega))
 exact ⟨this.2.2.1,this.2.2.2⟩
theorem EN {hn:Int} {ls:List Lnk} (h:OKn hn ls) {link tick:Int} (h0:0≤link) (h1:link<(ls.length:Int)):0≤CW ls link tick∧CW ls link tick≤1073741824:=by
 have := h.hours link.toNat (tick.toNat % 24) (Ci h0 h1) (Nat.mod_lt _ (by omega))
 exact ⟨this.1,this.2.1⟩
def D7 (ls:List Lnk) (l:List Snd):Nat→Int
 | 0=>0
 | k+1=>D7 ls l k+(l.getD k dS).2.2*EA ls (l.getD k dS).1 (l.getD k dS).2.1
def Dq (hn:Int) (ls:List Lnk) (l:List Snd):Int:=if AL hn ls l≠0 then 0 else D7 ls l l.length
theorem OG {a b A B:Int} (h0:0≤a) (h1:a≤A) (h2:0≤b) (h3:b≤B):0≤a*b∧a*b≤A*B :=
 ⟨Int.mul_nonneg h0 h2,Int.mul_le_mul h1 h3 h2 (by omega)⟩
theorem TB {hn:Int} {ls:List Lnk} {l:List Snd} (ok:OKr hn ls l):∀k:Nat,k≤l.length→0≤D7 ls l k∧D7 ls l k≤1073741824000000*(k:Int)
 | 0,_=>⟨Int.le_refl _,by simp[D7]⟩
 | k+1,h=>by
  have ih:=TB ok k (by omega)
  have h1:=ok.link k (by omega)
  have h2:=ok.bytes k (by omega)
  have h3:=JY ok.net h1.1 h1.2 (tick:=(l.getD k dS).2.1)
  have h4:=OG (by omega) h2.2 h3.1 h3.2
  simp only[D7]
  omega
theorem XJ {hn:Int} {ls:List Lnk} {l:List Snd} (ok:OKr hn ls l) {k:Nat} (h:k<l.length):IntKind.i64.wrap ((l.getD k dS).2.2*EA ls (l.getD k dS).1 (l.getD k dS).2.1)=(l.getD k dS).2.2*EA ls (l.getD k dS).1 (l.getD k dS).2.1 ∧
  IntKind.i64.wrap (D7 ls l k+(l.getD k dS).2.2*EA ls (l.getD k dS).1 (l.getD k dS).2.1)=D7 ls l (k+1):=by
 have h0:=ok.len
 have h1:=ok.link k h
 have h2:=ok.bytes k h
 have h3:=JY ok.net h1.1 h1.2 (tick:=(l.getD k dS).2.1)
 have h4:=OG (by omega) h2.2 h3.1 h3.2
 have h5:=TB ok k (by omega)
 exact ⟨Af (by omega) (by omega),Af (by omega) (by omega)⟩
noncomputable def MM:(Int)×(List Lnk)×(List Snd)→List PV:=fun (hn,ls,l) => [.agg [I hn,Ax ls],Aw l]
noncomputable def nD:(Int)×(List Lnk)×(List Snd)→PV:=fun (hn,ls,l)=>.tuple [I (Dq hn ls l),I (AL hn ls l)]
def nE:(Int)×(List Lnk)×(List Snd)→Prop:=fun (hn,ls,l)=>True
noncomputable def e_cost:Nat×Ent:=(25,.v (Ag MM nD nE))
theorem Aeq:∀i j,MM i=MM j→i=j:=by
 rintro ⟨hn₁,ls₁,l₁⟩ ⟨hn₂,ls₂,l₂⟩ h
 simp only[MM,List.cons.injEq,and_true,PV.lits.injEq,PV.int.injEq,PV.agg.injEq,true_and,AK,AD]at h
 simp [h] <;> omega
theorem Aer (hn:Int) (ls:List Lnk) (l:List Snd):Ag MM nD nE [.agg [I hn,Ax ls],Aw l]=some (.tuple [I (Dq hn ls l),I (AL hn ls l)]):=Az Aeq (i:=(hn,ls,l)) trivial
def nF:Prop:=∀(hn:Int) (ls:List Lnk) (l:List Snd) ,VC Try.prog 25 [.agg [I hn,Ax ls],Aw l] (.tuple [I (Dq hn ls l),I (AL hn ls l)])
def nG:Prop:=AM Try.prog e_cost.1 e_cost.2
theorem Aes (c:nF):nG:=Ao fun⟨hn,ls,l⟩ h=>c hn ls l
theorem Aet:nF:=by
 intro hn ls l
 refine AW AO (l := [e_right]) ((Ad JV An)) [] []  Try.func25 rfl (by decide +kernel) (N:=40) rfl (by simp) rfl (by kernel_rfl) fun hs=>?_
 simp only[AH,PV.small,List.length_map,and_true,true_and]at hs
 by_cases h:AL hn ls l=0
 case neg =>
  rw [show Dq hn ls l=0 by simp[Dq,h]]
  generalize hr:AL hn ls l=r at *
  simp +contextual (maxSteps:=4000000) only[↓bdD,bdP,Nat.reduceLT,Nat.reduceBEq,Ai,Nat.reduceAdd,st0,↓reduceIte,e_right,BX,Ac,Ab,Try.f25,Aq,AB,h,hr]
 have ok:=right_zero.1 h
 have hlen:=ok.len
 rw [show Dq hn ls l=D7 ls l l.length by simp[Dq,h],h]
 generalize hr:D7 ls l l.length=r
 simp +contextual (maxSteps:=4000000) only[↓bdD,bdP,Nat.reduceLT,Nat.reduceBEq,Nat.reduceAdd,st0,↓reduceIte,e_right,BX,Ac,Ab,Try.f25,Aq,AB,h]
 refine Ar [7,9,18,19,20,21,22,23,24,25,26,27,28,29,30,31,32,33,34,35,36,37,38] l.length (fun k ρ st'=>ρ 18=I k∧ρ 7=I (D7 ls l k)) (.refl _) ?_ ?_
 ·simp +contextual (maxSteps:=4000000) only[↓bdD,bdP,Nat.reduceBEq,D7]
 ·rintro k ρ ⟨ob,M⟩ hk ⟨h18,h7⟩
  by_cases hlt:k<l.length
  ·have hw1:IntKind.i64.wrap ((k:Int)+1)=((k+1:Nat):Int):=by rw[Af (by omega) (by omega)];omega
   have e1:=ok.link k hlt
   have e2:=(ok.tick k hlt).1
   have hw:=XJ ok hlt
   generalize hx:l.getD k dS=x at *
   have h3:=I3 e2
   have h4:x.2.1.toNat % 24<24:=Nat.mod_lt _ (by omega)
   have h4i:((x.2.1.toNat % 24:Nat):Int)<24:=by omega
   unfold EA at hw
   generalize x.2.1.toNat % 24=hh at *
   have h5:=Ci e1.1 e1.2
   have h6:=Int.toNat_of_nonneg e1.1
   generalize x.1.toNat=kk at *
   simp +contextual (maxSteps:=4000000) only[↓bdD,bdP,Nat.reduceLT,Nat.reduceBEq,Nat.reduceAdd,Int.reduceEq,Store.new,Store.set,↓reduceIte,Ay,A7,Dt,Nat.mul_one,ty3,Bq,Aq,AB,GY,B0,Bv,h18,h7,hlt,hx,h3,h4,h4i,h5,←h6,hw,hw1]
  ·have e:k=l.length:=by omega
   subst e
   rw [hr]at h7
   simp +contextual (maxSteps:=4000000) only[↓bdD,bdP,Nat.reduceLT,Nat.reduceBEq,Ai,↓reduceIte,h18,h7]
theorem Aeu:nG:=Aes Aet
noncomputable def JZ:(Int)×(List Lnk)×(List Snd)→List PV:=fun (hn,ls,l) => [.agg [I hn,Ax ls],Aw l]
noncomputable def XK:(Int)×(List Lnk)×(List Snd)→PV:=fun (hn,ls,l)=>.agg [I (Dq hn ls l),I (AL hn ls l)]
def XL:(Int)×(List Lnk)×(List Snd)→Prop:=fun (hn,ls,l)=>True
noncomputable def e_rcost:Nat×Ent:=(41,.v (Ag JZ XK XL))
theorem zD:∀i j,JZ i=JZ j→i=j:=by
 rintro ⟨hn₁,ls₁,l₁⟩ ⟨hn₂,ls₂,l₂⟩ h
 simp only[JZ,List.cons.injEq,and_true,PV.lits.injEq,PV.int.injEq,PV.agg.injEq,true_and,AK,AD]at h
 simp [h] <;> omega
theorem zE (hn:Int) (ls:List Lnk) (l:List Snd):Ag JZ XK XL [.agg [I hn,Ax ls],Aw l]=some (.agg [I (Dq hn ls l),I (AL hn ls l)]):=Az zD (i:=(hn,ls,l)) trivial
def XM:Prop:=∀(hn:Int) (ls:List Lnk) (l:List Snd) ,VC Try.prog 41 [.agg [I hn,Ax ls],Aw l] (.agg [I (Dq hn ls l),I (AL hn ls l)])
def XN:Prop:=AM Try.prog e_rcost.1 e_rcost.2
theorem zF (c:XM):XN:=Ao fun⟨hn,ls,l⟩ h=>c hn ls l
theorem zG:XM:=by
 intro hn ls l
 refine AW AO (l := [e_rright]) ((Ad JW An)) [4] []  Try.func41 rfl (by decide +kernel) (N:=48) rfl (by simp) rfl (by kernel_rfl) fun hs=>?_
 simp only[AH,PV.small,List.length_map,and_true,true_and]at hs
 by_cases h:AL hn ls l=0
 case neg =>
  rw [show Dq hn ls l=0 by simp[Dq,h]]
  generalize hr:AL hn ls l=r at *
  simp +contextual (maxSteps:=4000000) only[↓bdD,bdP,Nat.reduceLT,Nat.reduceBEq,Ai,Nat.reduceAdd,st0,Store.new,Store.set,↓reduceIte,e_rright,Cz,Ac,Ab,Try.f41,Aq,AB,lN,h,hr]
 have ok:=right_zero.1 h
 have hlen:=ok.len
 rw [show Dq hn ls l=D7 ls l l.length by simp[Dq,h],h]
 generalize hr:D7 ls l l.length=r
 simp +contextual (maxSteps:=4000000) only[↓bdD,bdP,Nat.reduceLT,Nat.reduceBEq,Nat.reduceAdd,st0,Store.new,↓reduceIte,e_rright,Cz,Ac,Ab,Try.f41,Aq,AB,lN,h]
 refine Ar [6,7,15,16,17,18,19,20,21,22,23,24,25,26,27,28,29,30,31,32,33,34,35,36,37,38,39,40,41,42,43,44,45] l.length (fun k ρ st'=>ρ 7=I k∧ρ 6=I (D7 ls l k)∧st'.obj 0=some (.arr 0 2 [.agg [I 0,I 0]])) (.refl _) ?_ ?_
 ·simp +contextual (maxSteps:=4000000) only[↓bdD,bdP,Nat.reduceBEq,D7]
 ·rintro k ρ ⟨ob,M⟩ hk ⟨h18,h7,h0⟩
  dsimp only at h0
  by_cases hlt:k<l.length
  ·have hw1:IntKind.i64.wrap ((k:Int)+1)=((k+1:Nat):Int):=by rw[Af (by omega) (by omega)];omega
   have e1:=ok.link k hlt
   have e2:=(ok.tick k hlt).1
   have hw:=XJ ok hlt
   generalize hx:l.getD k dS=x at *
   have h3:=I3 e2
   have h4:x.2.1.toNat % 24<24:=Nat.mod_lt _ (by omega)
   have h4i:((x.2.1.toNat % 24:Nat):Int)<24:=by omega
   unfold EA at hw
   generalize x.2.1.toNat % 24=hh at *
   have h5:=Ci e1.1 e1.2
   have h6:=Int.toNat_of_nonneg e1.1
   generalize x.1.toNat=kk at *
   simp +contextual (maxSteps:=4000000) only[↓bdD,bdP,Nat.reduceLT,Nat.reduceBEq,Nat.reduceAdd,Int.reduceEq,↓reduceIte,Ay,A7,Dt,Nat.mul_one,ty3,Bq,Aq,AB,GY,B0,Bv,h0,h18,h7,hlt,hx,h3,h4,h4i,h5,←h6,hw,hw1]
  ·have e:k=l.length:=by omega
   subst e
   rw [hr]at h7
   simp +contextual (maxSteps:=4000000) only[↓bdD,bdP,Nat.reduceLT,Nat.reduceBEq,Ai,Nat.reduceAdd,Nat.reduceLeDiff,Store.set,↓reduceIte,AB,lN,h0,h18,h7]
theorem zH:XN:=zF zG
def Bd (l:List Snd) (link tick:Int):Nat→Int
 | 0=>0
 | k+1=>Bd l link tick k+if (l.getD k dS).1=link∧(l.getD k dS).2.1=tick then (l.getD k dS).2.2 else 0
def D8 (hn:Int) (ls:List Lnk) (l:List Snd) (link tick:Int):Int×Int :=
 if AL hn ls l≠0 then (0,AL hn ls l)else if link<0∨(ls.length:Int)≤link∨tick<0∨1000000≤tick then (0,1)else (CW ls link tick-Bd l link tick l.length,0)
def smB (l:List Snd):Prop:=l.length≤2000∧∀k,k<l.length→1≤(l.getD k dS).2.2∧(l.getD k dS).2.2≤1073741824
theorem MN {l:List Snd} (h:smB l) (link tick:Int):∀k:Nat,k≤l.length→0≤Bd l link tick k∧Bd l link tick k≤1073741824*(k:Int)
 | 0,_=>⟨Int.le_refl _,by simp[Bd]⟩
 | k+1,hk=>by
  have ih:=MN h link tick k (by omega)
  have h2:=h.2 k (by omega)
  simp only[Bd]
  split <;> omega
theorem OKr.smB {hn:Int} {ls:List Lnk} {l:List Snd} (h:OKr hn ls l):smB l:=⟨h.len,h.bytes⟩
noncomputable def MO:(Int)×(List Lnk)×(List Snd)×(Int)×(Int)→List PV:=fun (hn,ls,l,link,tick) => [.agg [I hn,Ax ls],Aw l,I link,I tick]
noncomputable def nH:(Int)×(List Lnk)×(List Snd)×(Int)×(Int)→PV:=fun (hn,ls,l,link,tick)=>.tuple [I (D8 hn ls l link tick).1,I (D8 hn ls l link tick).2]
def nI:(Int)×(List Lnk)×(List Snd)×(Int)×(Int)→Prop:=fun (hn,ls,l,link,tick)=>True
noncomputable def e_left:Nat×Ent:=(61,.v (Ag MO nH nI))
theorem Aev:∀i j,MO i=MO j→i=j:=by
 rintro ⟨hn₁,ls₁,l₁,link₁,tick₁⟩ ⟨hn₂,ls₂,l₂,link₂,tick₂⟩ h
 simp only[MO,List.cons.injEq,and_true,PV.lits.injEq,PV.int.injEq,PV.agg.injEq,true_and,AK,AD]at h
 simp [h] <;> omega
theorem Aew (hn:Int) (ls:List Lnk) (l:List Snd) (link:Int) (tick:Int):Ag MO nH nI [.agg [I hn,Ax ls],Aw l,I link,I tick]=some (.tuple [I (D8 hn ls l link tick).1,I (D8 hn ls l link tick).2]):=Az Aev (i:=(hn,ls,l,link,tick)) trivial
def nJ:Prop:=∀(hn:Int) (ls:List Lnk) (l:List Snd) (link:Int) (tick:Int) ,VC Try.prog 61 [.agg [I hn,Ax ls],Aw l,I link,I tick] (.tuple [I (D8 hn ls l link tick).1,I (D8 hn ls l link tick).2])
def nK:Prop:=AM Try.prog e_left.1 e_left.2
theorem Aex (c:nJ):nK:=Ao fun⟨hn,ls,l,link,tick⟩ h=>c hn ls l link tick
theorem Aey:nJ:=by
 intro hn ls l link tick
 refine AW AO (l := [e_right,e_cap]) ((Ad JV (Ad Aci An))) [] []  Try.func61 rfl (by decide +kernel) (N:=63) rfl (by simp) rfl (by kernel_rfl) fun hs=>?_
 simp only[AH,PV.small,List.length_map,and_true,true_and]at hs
 by_cases h:AL hn ls l=0
 case neg =>
  rw [show D8 hn ls l link tick=(0,AL hn ls l) by simp[D8,h]]
  generalize hr:AL hn ls l=r at *
  simp +contextual (maxSteps:=4000000) only[↓bdD,bdP,Nat.reduceLT,Nat.reduceBEq,Ai,Nat.reduceAdd,st0,↓reduceIte,e_right,BX,e_cap,Ac,Ab,Try.f61,Aq,AB,h,hr]
 have ok:=right_zero.1 h
 have hlen:=ok.len
 by_cases hb:link<0∨(ls.length:Int)≤link∨tick<0∨1000000≤tick
 ·rw [show D8 hn ls l link tick=(0,1) by simp only[D8,h,ne_eq,not_true_eq_false,if_false];rw[if_pos hb]]
  have e:link<0∨(¬link<0∧(ls.length:Int)≤link)∨(¬link<0∧¬(ls.length:Int)≤link∧tick<0)∨(¬link<0∧¬(ls.length:Int)≤link∧¬tick<0∧1000000≤tick):=by omega
  rcases e with e | e | e | e
  ·simp +contextual (maxSteps:=4000000) only[↓bdD,bdP,Nat.reduceLT,Nat.reduceBEq,Ai,Nat.reduceAdd,st0,↓reduceIte,e_right,BX,e_cap,Ac,Ab,Try.f61,Aq,AB,h,e]
  ·simp +contextual (maxSteps:=4000000) only[↓bdD,bdP,Nat.reduceLT,Nat.reduceBEq,Ai,Nat.reduceAdd,st0,↓reduceIte,e_right,BX,e_cap,Ac,Ab,Try.f61,Bq,Aq,AB,h,e]
  ·simp +contextual (maxSteps:=4000000) only[↓bdD,bdP,Nat.reduceLT,Nat.reduceBEq,Ai,Nat.reduceAdd,st0,↓reduceIte,e_right,BX,e_cap,Ac,Ab,Try.f61,Bq,Aq,AB,h,e]
  ·simp +contextual (maxSteps:=4000000) only[↓bdD,bdP,Nat.reduceLT,Nat.reduceBEq,Ai,Nat.reduceAdd,st0,↓reduceIte,e_right,BX,e_cap,Ac,Ab,Try.f61,Bq,Aq,AB,h,e]
 rw [show D8 hn ls l link tick=(CW ls link tick-Bd l link tick l.length,0) by simp only[D8,h,ne_eq,not_true_eq_false,if_false];rw[if_neg hb]]
 have e:¬link<0∧¬(ls.length:Int)≤link∧¬tick<0∧¬1000000≤tick∧0≤link∧link<(ls.length:Int)∧0≤tick:=by omega
 have hcap:=EN ok.net e.2.2.2.2.1 e.2.2.2.2.2.1 (tick:=tick)
 have hb:=ok.smB
 generalize hr:CW ls link tick-Bd l link tick l.length=r
 simp +contextual (maxSteps:=4000000) only[↓bdD,bdP,Nat.reduceLT,Nat.reduceBEq,Nat.reduceEqDiff,Nat.reduceAdd,st0,↓reduceIte,e_right,BX,e_cap,mS,Ac,Ab,Try.f61,ty3,Bq,Aq,AB,h,e]
 refine Ar [11,13,43,44,45,46,47,48,49,50,51,52,53,54,55,56,57,58,59,60,61] l.length (fun k ρ st'=>ρ 43=I k∧ρ 11=I (CW ls link tick-Bd l link tick k)) (.refl _) ?_ ?_
 ·simp +contextual (maxSteps:=4000000) only[↓bdD,bdP,Nat.reduceBEq,Bd,Int.sub_zero]
 ·rintro k ρ ⟨ob,M⟩ hk ⟨h43,h11⟩
  by_cases hlt:k<l.length
  ·have hw1:IntKind.i64.wrap ((k:Int)+1)=((k+1:Nat):Int):=by rw[Af (by omega) (by omega)];omega
   have hs:=MN hb link tick k hk
   have hbk:=hb.2 k hlt
   have hstep:Bd l link tick (k+1)=Bd l link tick k+if (l.getD k dS).1=link∧(l.getD k dS).2.1=tick then (l.getD k dS).2.2 else 0:=rfl
   generalize hx:l.getD k dS=x at *
   by_cases e1:x.1=link
   ·by_cases e2:x.2.1=tick
    ·rw [if_pos ⟨e1,e2⟩]at hstep
     have hw2:IntKind.i64.wrap (CW ls link tick-Bd l link tick k-x.2.2)=CW ls link tick-Bd l link tick (k+1):=by rw[hstep,Af (by omega) (by omega)];omega
     simp +contextual (maxSteps:=4000000) only[↓bdD,bdP,Nat.reduceLT,Nat.reduceBEq,Nat.reduceAdd,Store.new,Store.set,↓reduceIte,Ay,ty3,AB,Bv,h43,h11,hlt,hx,e1,e2,hw1,hw2]
    ·rw [if_neg (fun h=>e2 h.2),Int.add_zero]at hstep
     simp +contextual (maxSteps:=4000000) only[↓bdD,bdP,Nat.reduceLT,Nat.reduceBEq,Nat.reduceAdd,Store.new,Store.set,↓reduceIte,Ay,ty3,AB,Bv,h43,h11,hlt,hx,e1,e2,hw1,hstep]
   ·rw [if_neg (fun h=>e1 h.1),Int.add_zero]at hstep
    simp +contextual (maxSteps:=4000000) only[↓bdD,bdP,Nat.reduceLT,Nat.reduceBEq,Nat.reduceAdd,Store.new,Store.set,↓reduceIte,Ay,ty3,AB,Bv,h43,h11,hlt,hx,e1,hw1,hstep]
  ·have e:k=l.length:=by omega
   subst e
   rw [hr]at h11
   simp +contextual (maxSteps:=4000000) only[↓bdD,bdP,Nat.reduceLT,Nat.reduceBEq,Ai,↓reduceIte,h43,h11]
theorem Aez:nK:=Aex Aey
end Sim
