/- What functions of this seat compute, by values: contracts (lemmas of the statement's proof, under the conditions that each names). -/
import Derived.Test.YtppljhpecoeakaaQN2
set_option maxRecDepth 10000
set_option maxHeartbeats 2000000
set_option linter.unusedVariables false
set_option linter.unusedSimpArgs false
namespace Sim
open Go Go.Proofs
attribute [local congr] Aq Ar Al AG At As Az
structure OKr (hn:Int) (ls:List Lnk) (l:List Snd):Prop where
 net : OKn hn ls
 len : l.length≤2000
 link : ∀k,k<l.length→0≤(l.getD k dS).1∧(l.getD k dS).1<(ls.length:Int)
 tick : ∀k,k<l.length→0≤(l.getD k dS).2.1∧(l.getD k dS).2.1<1000000
 bytes : ∀k,k<l.length→1≤(l.getD k dS).2.2∧(l.getD k dS).2.2≤1073741824
 asc : ∀k,0<k→k<l.length→(l.getD (k-1) dS).2.1<(l.getD k dS).2.1∨((l.getD (k-1) dS).2.1=(l.getD k dS).2.1∧(l.getD (k-1) dS).1<(l.getD k dS).1)
theorem TI {ls:List Lnk} {l:List Snd}:∀ {k},rgT ls l k=0↔∀i,i<k→TD ls l i=0
 | 0=>⟨fun _ h g=>absurd g (by omega),fun _=>rfl⟩
 | k+1=>by
  have ih:=@TI ls l k
  simp only[rgT]
  by_cases h:rgT ls l k=0
  ·rw [if_neg (fun hn=>hn h)]
   constructor
   ·intro hb i hi
    by_cases e:i=k
    ·subst e;exact hb
    ·exact ih.1 h i (by omega)
   ·intro g;exact g k (by omega)
  ·rw [if_pos h]
   exact ⟨fun g=>absurd g h,fun g=>absurd (ih.2 fun i hi=>g i (by omega)) h⟩
theorem sndE_zero {ls:List Lnk} {l:List Snd} {k:Nat}:TD ls l k=0↔(0≤(l.getD k dS).1∧(l.getD k dS).1<(ls.length:Int))∧(0≤(l.getD k dS).2.1∧(l.getD k dS).2.1<1000000)∧(1≤(l.getD k dS).2.2∧(l.getD k dS).2.2≤1073741824)∧(0<k→(l.getD (k-1) dS).2.1<(l.getD k dS).2.1∨((l.getD (k-1) dS).2.1=(l.getD k dS).2.1∧(l.getD (k-1) dS).1<(l.getD k dS).1)):=by
 unfold TD
 generalize l.getD k dS=x
 generalize l.getD (k-1) dS=y
 split
 ·constructor
  ·intro h;cases h
  ·omega
 ·split
  ·constructor
   ·intro h;cases h
   ·omega
  ·split
   ·constructor
    ·intro h;cases h
    ·omega
   ·constructor
    ·intro; omega
    ·intro; rfl
theorem right_zero {hn:Int} {ls:List Lnk} {l:List Snd}:AN hn ls l=0↔OKr hn ls l:=by
 unfold AN
 split
 ·rename_i h
  exact ⟨fun g=>absurd g h,fun g=>absurd (check_zero.2 g.net) h⟩
 ·rename_i h
  have h:=check_zero.1 (Classical.not_not.1 h)
  split
  ·exact ⟨fun g=>(by cases g),fun g=>(by have:=g.len;omega)⟩
  ·rw [TI]
   constructor
   ·intro g
    exact ⟨h,by omega,fun k hk=>(sndE_zero.1 (g k hk)).1,fun k hk=>(sndE_zero.1 (g k hk)).2.1,fun k hk=>(sndE_zero.1 (g k hk)).2.2.1,fun k h0 hk=>(sndE_zero.1 (g k hk)).2.2.2 h0⟩
   ·intro g k hk
    exact sndE_zero.2 ⟨g.link k hk,g.tick k hk,g.bytes k hk,fun h0=>g.asc k h0 hk⟩
def CT (ls:List Lnk) (link tick:Int):Int:=DT (ls.getD link.toNat dL) (tick.toNat % 24)
def D3 (ls:List Lnk) (link tick:Int):Int:=Ew (ls.getD link.toNat dL) (tick.toNat % 24)
theorem MM {t:Int} (h:0≤t):Int.tmod t 24=((t.toNat % 24:Nat):Int):=by
 rw [Int.tmod_eq_emod_of_nonneg h];omega
theorem Cy {a:Int} {n:Nat} (h0:0≤a) (h:a<(n:Int)):a.toNat<n:=by omega
noncomputable def TJ:(Int)×(List Lnk)×(Int)×(Int)→List PV:=fun (hn,ls,link,tick) => [.agg [I hn,Ax ls],I link,I tick]
noncomputable def Abz:(Int)×(List Lnk)×(Int)×(Int)→PV:=fun (hn,ls,link,tick)=>I (CT ls link tick)
def Ab0:(Int)×(List Lnk)×(Int)×(Int)→Prop:=fun (hn,ls,link,tick)=>0≤link∧link<(ls.length:Int)∧0≤tick
noncomputable def e_cap:Nat×Ent:=(69,.v (Ah TJ Abz Ab0))
theorem Ain:∀i j,TJ i=TJ j→i=j:=by
 rintro ⟨hn₁,ls₁,link₁,tick₁⟩ ⟨hn₂,ls₂,link₂,tick₂⟩ h
 simp only[TJ,List.cons.injEq,and_true,PV.lits.injEq,PV.int.injEq,PV.agg.injEq,true_and,AF]at h
 simp [h] <;> omega
theorem mM (hn:Int) (ls:List Lnk) (link:Int) (tick:Int):Ah TJ Abz Ab0 [.agg [I hn,Ax ls],I link,I tick]=@ite (Option (PV)) (0≤link∧link<(ls.length:Int)∧0≤tick) (Classical.propDecidable _) (some (I (CT ls link tick))) none:=BM Ain (hn,ls,link,tick)
def Ab1:Prop:=∀(hn:Int) (ls:List Lnk) (link:Int) (tick:Int) (h:0≤link∧link<(ls.length:Int)∧0≤tick) ,VC Try.prog 69 [.agg [I hn,Ax ls],I link,I tick] (I (CT ls link tick))
def Ab2:Prop:=AL Try.prog e_cap.1 e_cap.2
theorem Aio (c:Ab1):Ab2:=Ap fun⟨hn,ls,link,tick⟩ h=>c hn ls link tick h
theorem Aip:Ab1:=by
 rintro hn ls link tick ⟨h0,h1,h2⟩
 refine A3 AP (l := []) (An) [] []  Try.func69 rfl (by decide +kernel) (N:=16) rfl (by simp) rfl (by kernel_rfl) fun hs=>?_
 simp only[AJ,PV.small,List.length_map,and_true,true_and]at hs
 unfold CT
 have h3:=MM h2
 have h4:tick.toNat % 24<24:=Nat.mod_lt _ (by omega)
 have h4i:((tick.toNat % 24:Nat):Int)<24:=by omega
 generalize tick.toNat % 24=h at *
 have h5:=Cy h0 h1
 have h6:=Int.toNat_of_nonneg h0
 generalize link.toNat=k at *
 generalize hr:DT (ls.getD k dL) h=r
 subst h6
 simp +contextual (maxSteps:=4000000) only[↓bdD,bdP,Nat.reduceLT,Nat.reduceBEq,Ai,Nat.reduceAdd,Int.reduceEq,st0,↓reduceIte,A8,CI,Nat.mul_one,Try.f69,ty3,By,Au,Iw,B5,h0,h1,h3,h4,h4i,h5,hr]
theorem Ab3:Ab2:=Aio Aip
noncomputable def MN:(Int)×(List Lnk)×(Int)×(Int)→List PV:=fun (hn,ls,link,tick) => [.agg [I hn,Ax ls],I link,I tick]
noncomputable def mN:(Int)×(List Lnk)×(Int)×(Int)→PV:=fun (hn,ls,link,tick)=>I (CT ls link tick)
def mO:(Int)×(List Lnk)×(Int)×(Int)→Prop:=fun (hn,ls,link,tick)=>0≤link∧link<(ls.length:Int)∧0≤tick
noncomputable def e_rcap:Nat×Ent:=(48,.v (Ah MN mN mO))
theorem Ad6:∀i j,MN i=MN j→i=j:=by
 rintro ⟨hn₁,ls₁,link₁,tick₁⟩ ⟨hn₂,ls₂,link₂,tick₂⟩ h
 simp only[MN,List.cons.injEq,and_true,PV.lits.injEq,PV.int.injEq,PV.agg.injEq,true_and,AF]at h
 simp [h] <;> omega
theorem WH (hn:Int) (ls:List Lnk) (link:Int) (tick:Int):Ah MN mN mO [.agg [I hn,Ax ls],I link,I tick]=@ite (Option (PV)) (0≤link∧link<(ls.length:Int)∧0≤tick) (Classical.propDecidable _) (some (I (CT ls link tick))) none:=BM Ad6 (hn,ls,link,tick)
def mP:Prop:=∀(hn:Int) (ls:List Lnk) (link:Int) (tick:Int) (h:0≤link∧link<(ls.length:Int)∧0≤tick) ,VC Try.prog 48 [.agg [I hn,Ax ls],I link,I tick] (I (CT ls link tick))
def mQ:Prop:=AL Try.prog e_rcap.1 e_rcap.2
theorem Ad7 (c:mP):mQ:=Ap fun⟨hn,ls,link,tick⟩ h=>c hn ls link tick h
theorem Ad8:mP:=by
 rintro hn ls link tick ⟨h0,h1,h2⟩
 refine A3 AP (l := []) (An) [] []  Try.func48 rfl (by decide +kernel) (N:=16) rfl (by simp) rfl (by kernel_rfl) fun hs=>?_
 simp only[AJ,PV.small,List.length_map,and_true,true_and]at hs
 unfold CT
 have h3:=MM h2
 have h4:tick.toNat % 24<24:=Nat.mod_lt _ (by omega)
 have h4i:((tick.toNat % 24:Nat):Int)<24:=by omega
 generalize tick.toNat % 24=h at *
 have h5:=Cy h0 h1
 have h6:=Int.toNat_of_nonneg h0
 generalize link.toNat=k at *
 generalize hr:DT (ls.getD k dL) h=r
 subst h6
 simp +contextual (maxSteps:=4000000) only[↓bdD,bdP,Nat.reduceLT,Nat.reduceBEq,Ai,Nat.reduceAdd,Int.reduceEq,st0,↓reduceIte,A8,CI,Nat.mul_one,Try.f48,ty3,By,Au,Iw,B5,h0,h1,h3,h4,h4i,h5,hr]
theorem mR:mQ:=Ad7 Ad8
def ftT (ls:List Lnk) (l:List Snd):Nat→Bool
 | 0=>false
 | k+1=>ftT ls l k||decide (CT ls (l.getD k dS).1 (l.getD k dS).2.1<(l.getD k dS).2.2)
def Br (hn:Int) (ls:List Lnk) (l:List Snd):Int:=if AN hn ls l≠0 then AN hn ls l else if ftT ls l l.length=true then 13 else 0
theorem XG {ls:List Lnk} {l:List Snd} {k m:Nat} (h:ftT ls l k=true) (hk:k≤m):ftT ls l m=true:=by
 induction m with
 | zero=>rwa [show k=0 by omega]at h
 | succ m ih =>
  by_cases e:k=m+1
  ·rwa [←e]
  ·simp only[ftT,ih (by omega),Bool.true_or]
noncomputable def MO:(Int)×(List Lnk)×(List Snd)→List PV:=fun (hn,ls,l) => [.agg [I hn,Ax ls],Av l]
noncomputable def mS:(Int)×(List Lnk)×(List Snd)→PV:=fun (hn,ls,l)=>I (Br hn ls l)
def mT:(Int)×(List Lnk)×(List Snd)→Prop:=fun (hn,ls,l)=>True
noncomputable def e_fits:Nat×Ent:=(54,.v (Ah MO mS mT))
theorem Ad9:∀i j,MO i=MO j→i=j:=by
 rintro ⟨hn₁,ls₁,l₁⟩ ⟨hn₂,ls₂,l₂⟩ h
 simp only[MO,List.cons.injEq,and_true,PV.lits.injEq,PV.int.injEq,PV.agg.injEq,true_and,AM,AF]at h
 simp [h] <;> omega
theorem KP (hn:Int) (ls:List Lnk) (l:List Snd):Ah MO mS mT [.agg [I hn,Ax ls],Av l]=some (I (Br hn ls l)):=AC Ad9 (i:=(hn,ls,l)) trivial
def mU:Prop:=∀(hn:Int) (ls:List Lnk) (l:List Snd) ,VC Try.prog 54 [.agg [I hn,Ax ls],Av l] (I (Br hn ls l))
def mV:Prop:=AL Try.prog e_fits.1 e_fits.2
theorem Aea (c:mU):mV:=Ap fun⟨hn,ls,l⟩ h=>c hn ls l
theorem Aeb:mU:=by
 intro hn ls l
 refine A3 AP (l := [e_right,e_cap]) ((Ad J3 (Ad Ab3 An))) [27] []  Try.func54 rfl (by decide +kernel) (N:=30) rfl (by simp) rfl (by kernel_rfl) fun hs=>?_
 simp only[AJ,PV.small,List.length_map,and_true,true_and]at hs
 by_cases h:AN hn ls l=0
 case neg =>
  rw [show Br hn ls l=AN hn ls l by simp[Br,h]]
  generalize hr:AN hn ls l=r at *
  simp +contextual (maxSteps:=4000000) only[↓bdD,bdP,Nat.reduceLT,Nat.reduceBEq,Ai,Nat.reduceAdd,st0,↓reduceIte,e_right,BZ,e_cap,Ac,Ab,Try.f54,Au,AB,h,hr]
 have ok:=right_zero.1 h
 have hlen:=ok.len
 rw [show Br hn ls l=if ftT ls l l.length=true then 13 else 0 by simp[Br,h]]
 generalize hr:(if ftT ls l l.length=true then (13:Int)else 0)=r
 simp +contextual (maxSteps:=4000000) only[↓bdD,bdP,Nat.reduceLT,Nat.reduceBEq,Nat.reduceAdd,st0,↓reduceIte,e_right,BZ,e_cap,Ac,Ab,Try.f54,Au,AB,h]
 refine Ay [4,7,16,17,18,19,20,21,22,23,24,25,26,27,28,29] l.length (fun k ρ st'=>ρ 16=I k∧ftT ls l k=false) (.refl _) ?_ ?_
 ·simp +contextual (maxSteps:=4000000) only[↓bdD,bdP,ftT]
 ·rintro k ρ ⟨ob,M⟩ hk ⟨h16,hz⟩
  by_cases hlt:k<l.length
  ·have hw1:IntKind.i64.wrap ((k:Int)+1)=((k+1:Nat):Int):=by rw[Aj (by omega) (by omega)];omega
   have e1:=ok.link k hlt
   have e2:=(ok.tick k hlt).1
   have hs:ftT ls l (k+1)=decide (CT ls (l.getD k dS).1 (l.getD k dS).2.1<(l.getD k dS).2.2):=by simp only[ftT,hz,Bool.false_or]
   generalize hx:l.getD k dS=x at *
   by_cases hb:CT ls x.1 x.2.1<x.2.2
   ·rw [decide_eq_true hb]at hs
    rw [if_pos (XG hs (by omega))]at hr
    subst hr
    simp +contextual (maxSteps:=4000000) only[↓bdD,bdP,Nat.reduceLT,Nat.reduceBEq,Ai,Nat.reduceEqDiff,Nat.reduceAdd,Store.new,Store.set,↓reduceIte,mM,Aw,Ab,ty3,Au,AB,Bv,h16,hlt,hx,e1,e2,hb]
   ·rw [decide_eq_false hb]at hs
    simp +contextual (maxSteps:=4000000) only[↓bdD,bdP,Nat.reduceLT,Nat.reduceBEq,Nat.reduceEqDiff,Nat.reduceAdd,Store.new,Store.set,↓reduceIte,mM,Aw,Ab,ty3,Au,AB,Bv,h16,hlt,hx,e1,e2,hb,hs,hw1]
  ·have e:k=l.length:=by omega
   subst e
   rw [hz,if_neg (by simp)]at hr
   subst hr
   simp +contextual (maxSteps:=4000000) only[↓bdD,bdP,Nat.reduceLT,Nat.reduceBEq,Ai,↓reduceIte,h16]
theorem mW:mV:=Aea Aeb
noncomputable def J4:(Int)×(List Lnk)×(List Snd)→List PV:=fun (hn,ls,l) => [.agg [I hn,Ax ls],Av l]
noncomputable def XH:(Int)×(List Lnk)×(List Snd)→PV:=fun (hn,ls,l)=>I (Br hn ls l)
def XI:(Int)×(List Lnk)×(List Snd)→Prop:=fun (hn,ls,l)=>True
noncomputable def e_rfits:Nat×Ent:=(56,.v (Ah J4 XH XI))
theorem yN:∀i j,J4 i=J4 j→i=j:=by
 rintro ⟨hn₁,ls₁,l₁⟩ ⟨hn₂,ls₂,l₂⟩ h
 simp only[J4,List.cons.injEq,and_true,PV.lits.injEq,PV.int.injEq,PV.agg.injEq,true_and,AM,AF]at h
 simp [h] <;> omega
theorem Ie (hn:Int) (ls:List Lnk) (l:List Snd):Ah J4 XH XI [.agg [I hn,Ax ls],Av l]=some (I (Br hn ls l)):=AC yN (i:=(hn,ls,l)) trivial
def XJ:Prop:=∀(hn:Int) (ls:List Lnk) (l:List Snd) ,VC Try.prog 56 [.agg [I hn,Ax ls],Av l] (I (Br hn ls l))
def XK:Prop:=AL Try.prog e_rfits.1 e_rfits.2
theorem yO (c:XJ):XK:=Ap fun⟨hn,ls,l⟩ h=>c hn ls l
theorem yP:XJ:=by
 intro hn ls l
 refine A3 AP (l := [e_rright,e_rcap]) ((Ad ML (Ad mR An))) [35] []  Try.func56 rfl (by decide +kernel) (N:=37) rfl (by simp) rfl (by kernel_rfl) fun hs=>?_
 simp only[AJ,PV.small,List.length_map,and_true,true_and]at hs
 by_cases h:AN hn ls l=0
 case neg =>
  rw [show Br hn ls l=AN hn ls l by simp[Br,h]]
  generalize hr:AN hn ls l=r at *
  simp +contextual (maxSteps:=4000000) only[↓bdD,bdP,Nat.reduceLT,Nat.reduceBEq,Ai,Nat.reduceAdd,st0,↓reduceIte,e_rright,Df,e_rcap,Ac,Ab,Try.f56,Au,AB,h,hr]
 have ok:=right_zero.1 h
 have hlen:=ok.len
 rw [show Br hn ls l=if ftT ls l l.length=true then 13 else 0 by simp[Br,h]]
 generalize hr:(if ftT ls l l.length=true then (13:Int)else 0)=r
 simp +contextual (maxSteps:=4000000) only[↓bdD,bdP,Nat.reduceLT,Nat.reduceBEq,Nat.reduceAdd,st0,↓reduceIte,e_rright,Df,e_rcap,Ac,Ab,Try.f56,Au,AB,h]
 refine Ay [4,6,13,14,15,16,17,18,19,20,21,22,23,24,25,26,27,28,29,30,31,32,33,34,35,36] l.length (fun k ρ st'=>ρ 6=I k∧ftT ls l k=false) (.refl _) ?_ ?_
 ·simp +contextual (maxSteps:=4000000) only[↓bdD,bdP,ftT]
 ·rintro k ρ ⟨ob,M⟩ hk ⟨h6,hz⟩
  by_cases hlt:k<l.length
  ·have hw1:IntKind.i64.wrap ((k:Int)+1)=((k+1:Nat):Int):=by rw[Aj (by omega) (by omega)];omega
   have e1:=ok.link k hlt
   have e2:=(ok.tick k hlt).1
   have hs:ftT ls l (k+1)=decide (CT ls (l.getD k dS).1 (l.getD k dS).2.1<(l.getD k dS).2.2):=by simp only[ftT,hz,Bool.false_or]
   generalize hx:l.getD k dS=x at *
   by_cases hb:CT ls x.1 x.2.1<x.2.2
   ·rw [decide_eq_true hb]at hs
    rw [if_pos (XG hs (by omega))]at hr
    subst hr
    simp +contextual (maxSteps:=4000000) only[↓bdD,bdP,Nat.reduceLT,Nat.reduceBEq,Ai,Nat.reduceEqDiff,Nat.reduceAdd,↓reduceIte,WH,Aw,Ab,ty3,Au,AB,Bv,h6,hlt,hx,e1,e2,hb]
   ·rw [decide_eq_false hb]at hs
    simp +contextual (maxSteps:=4000000) only[↓bdD,bdP,Nat.reduceLT,Nat.reduceBEq,Nat.reduceEqDiff,Nat.reduceAdd,↓reduceIte,WH,Aw,Ab,ty3,Au,AB,Bv,h6,hlt,hx,e1,e2,hb,hs,hw1]
  ·have e:k=l.length:=by omega
   subst e
   rw [hz,if_neg (by simp)]at hr
   subst hr
   simp +contextual (maxSteps:=4000000) only[↓bdD,bdP,Nat.reduceLT,Nat.reduceBEq,Ai,Nat.reduceAdd,↓reduceIte,AB,h6]
theorem XL:XK:=yO yP
end Sim
namespace Sim
open Go Go.Proofs
attribute [local congr] Aq Ar Al AG At As Az
theorem If {hn:Int} {ls:List Lnk} (h:OKn hn ls) {link tick:Int} (h0:0≤link) (h1:link<(ls.length:Int)):0≤D3 ls link tick∧D3 ls link tick≤1000000:=by
 have := h.hours link.toNat (tick.toNat % 24) (Cy h0 h1) (Nat.mod_lt _ (by omega))
 exact ⟨this.2.2.1,this.2.2.2⟩
theorem ES {hn:Int} {ls:List Lnk} (h:OKn hn ls) {link tick:Int} (h0:0≤link) (h1:link<(ls.length:Int)):0≤CT ls link tick∧CT ls link tick≤1073741824:=by
 have := h.hours link.toNat (tick.toNat % 24) (Cy h0 h1) (Nat.mod_lt _ (by omega))
 exact ⟨this.1,this.2.1⟩
def EN (ls:List Lnk) (l:List Snd):Nat→Int
 | 0=>0
 | k+1=>EN ls l k+(l.getD k dS).2.2*D3 ls (l.getD k dS).1 (l.getD k dS).2.1
def CY (hn:Int) (ls:List Lnk) (l:List Snd):Int:=if AN hn ls l≠0 then 0 else EN ls l l.length
theorem OP {a b A B:Int} (h0:0≤a) (h1:a≤A) (h2:0≤b) (h3:b≤B):0≤a*b∧a*b≤A*B :=
 ⟨Int.mul_nonneg h0 h2,Int.mul_le_mul h1 h3 h2 (by omega)⟩
theorem TK {hn:Int} {ls:List Lnk} {l:List Snd} (ok:OKr hn ls l):∀k:Nat,k≤l.length→0≤EN ls l k∧EN ls l k≤1073741824000000*(k:Int)
 | 0,_=>⟨Int.le_refl _,by simp[EN]⟩
 | k+1,h=>by
  have ih:=TK ok k (by omega)
  have h1:=ok.link k (by omega)
  have h2:=ok.bytes k (by omega)
  have h3:=If ok.net h1.1 h1.2 (tick:=(l.getD k dS).2.1)
  have h4:=OP (by omega) h2.2 h3.1 h3.2
  simp only[EN]
  omega
theorem yQ {hn:Int} {ls:List Lnk} {l:List Snd} (ok:OKr hn ls l) {k:Nat} (h:k<l.length):IntKind.i64.wrap ((l.getD k dS).2.2*D3 ls (l.getD k dS).1 (l.getD k dS).2.1)=(l.getD k dS).2.2*D3 ls (l.getD k dS).1 (l.getD k dS).2.1 ∧
  IntKind.i64.wrap (EN ls l k+(l.getD k dS).2.2*D3 ls (l.getD k dS).1 (l.getD k dS).2.1)=EN ls l (k+1):=by
 have h0:=ok.len
 have h1:=ok.link k h
 have h2:=ok.bytes k h
 have h3:=If ok.net h1.1 h1.2 (tick:=(l.getD k dS).2.1)
 have h4:=OP (by omega) h2.2 h3.1 h3.2
 have h5:=TK ok k (by omega)
 exact ⟨Aj (by omega) (by omega),Aj (by omega) (by omega)⟩
noncomputable def MP:(Int)×(List Lnk)×(List Snd)→List PV:=fun (hn,ls,l) => [.agg [I hn,Ax ls],Av l]
noncomputable def mX:(Int)×(List Lnk)×(List Snd)→PV:=fun (hn,ls,l)=>.tuple [I (CY hn ls l),I (AN hn ls l)]
def mY:(Int)×(List Lnk)×(List Snd)→Prop:=fun (hn,ls,l)=>True
noncomputable def e_cost:Nat×Ent:=(25,.v (Ah MP mX mY))
theorem Aec:∀i j,MP i=MP j→i=j:=by
 rintro ⟨hn₁,ls₁,l₁⟩ ⟨hn₂,ls₂,l₂⟩ h
 simp only[MP,List.cons.injEq,and_true,PV.lits.injEq,PV.int.injEq,PV.agg.injEq,true_and,AM,AF]at h
 simp [h] <;> omega
theorem HG (hn:Int) (ls:List Lnk) (l:List Snd):Ah MP mX mY [.agg [I hn,Ax ls],Av l]=some (.tuple [I (CY hn ls l),I (AN hn ls l)]):=AC Aec (i:=(hn,ls,l)) trivial
def mZ:Prop:=∀(hn:Int) (ls:List Lnk) (l:List Snd) ,VC Try.prog 25 [.agg [I hn,Ax ls],Av l] (.tuple [I (CY hn ls l),I (AN hn ls l)])
def nA:Prop:=AL Try.prog e_cost.1 e_cost.2
theorem Aed (c:mZ):nA:=Ap fun⟨hn,ls,l⟩ h=>c hn ls l
theorem Aee:mZ:=by
 intro hn ls l
 refine A3 AP (l := [e_right]) ((Ad J3 An)) [] []  Try.func25 rfl (by decide +kernel) (N:=40) rfl (by simp) rfl (by kernel_rfl) fun hs=>?_
 simp only[AJ,PV.small,List.length_map,and_true,true_and]at hs
 by_cases h:AN hn ls l=0
 case neg =>
  rw [show CY hn ls l=0 by simp[CY,h]]
  generalize hr:AN hn ls l=r at *
  simp +contextual (maxSteps:=4000000) only[↓bdD,bdP,Nat.reduceLT,Nat.reduceBEq,Ai,Nat.reduceAdd,st0,↓reduceIte,e_right,BZ,Ac,Ab,Try.f25,Au,AB,h,hr]
 have ok:=right_zero.1 h
 have hlen:=ok.len
 rw [show CY hn ls l=EN ls l l.length by simp[CY,h],h]
 generalize hr:EN ls l l.length=r
 simp +contextual (maxSteps:=4000000) only[↓bdD,bdP,Nat.reduceLT,Nat.reduceBEq,Nat.reduceAdd,st0,↓reduceIte,e_right,BZ,Ac,Ab,Try.f25,Au,AB,h]
 refine Ay [7,9,18,19,20,21,22,23,24,25,26,27,28,29,30,31,32,33,34,35,36,37,38] l.length (fun k ρ st'=>ρ 18=I k∧ρ 7=I (EN ls l k)) (.refl _) ?_ ?_
 ·simp +contextual (maxSteps:=4000000) only[↓bdD,bdP,Nat.reduceBEq,EN]
 ·rintro k ρ ⟨ob,M⟩ hk ⟨h18,h7⟩
  by_cases hlt:k<l.length
  ·have hw1:IntKind.i64.wrap ((k:Int)+1)=((k+1:Nat):Int):=by rw[Aj (by omega) (by omega)];omega
   have e1:=ok.link k hlt
   have e2:=(ok.tick k hlt).1
   have hw:=yQ ok hlt
   generalize hx:l.getD k dS=x at *
   have h3:=MM e2
   have h4:x.2.1.toNat % 24<24:=Nat.mod_lt _ (by omega)
   have h4i:((x.2.1.toNat % 24:Nat):Int)<24:=by omega
   unfold D3 at hw
   generalize x.2.1.toNat % 24=hh at *
   have h5:=Cy e1.1 e1.2
   have h6:=Int.toNat_of_nonneg e1.1
   generalize x.1.toNat=kk at *
   simp +contextual (maxSteps:=4000000) only[↓bdD,bdP,Nat.reduceLT,Nat.reduceBEq,Nat.reduceAdd,Int.reduceEq,Store.new,Store.set,↓reduceIte,Aw,A8,Eo,Nat.mul_one,ty3,By,Au,AB,Iw,B5,Bv,h18,h7,hlt,hx,h3,h4,h4i,h5,←h6,hw,hw1]
  ·have e:k=l.length:=by omega
   subst e
   rw [hr]at h7
   simp +contextual (maxSteps:=4000000) only[↓bdD,bdP,Nat.reduceLT,Nat.reduceBEq,Ai,↓reduceIte,h18,h7]
theorem nB:nA:=Aed Aee
def Ba (l:List Snd) (link tick:Int):Nat→Int
 | 0=>0
 | k+1=>Ba l link tick k+if (l.getD k dS).1=link∧(l.getD k dS).2.1=tick then (l.getD k dS).2.2 else 0
def Ed (hn:Int) (ls:List Lnk) (l:List Snd) (link tick:Int):Int×Int :=
 if AN hn ls l≠0 then (0,AN hn ls l)else if link<0∨(ls.length:Int)≤link∨tick<0∨1000000≤tick then (0,1)else (CT ls link tick-Ba l link tick l.length,0)
def smB (l:List Snd):Prop:=l.length≤2000∧∀k,k<l.length→1≤(l.getD k dS).2.2∧(l.getD k dS).2.2≤1073741824
theorem MQ {l:List Snd} (h:smB l) (link tick:Int):∀k:Nat,k≤l.length→0≤Ba l link tick k∧Ba l link tick k≤1073741824*(k:Int)
 | 0,_=>⟨Int.le_refl _,by simp[Ba]⟩
 | k+1,hk=>by
  have ih:=MQ h link tick k (by omega)
  have h2:=h.2 k (by omega)
  simp only[Ba]
  split <;> omega
theorem OKr.smB {hn:Int} {ls:List Lnk} {l:List Snd} (h:OKr hn ls l):smB l:=⟨h.len,h.bytes⟩
noncomputable def MR:(Int)×(List Lnk)×(List Snd)×(Int)×(Int)→List PV:=fun (hn,ls,l,link,tick) => [.agg [I hn,Ax ls],Av l,I link,I tick]
noncomputable def nC:(Int)×(List Lnk)×(List Snd)×(Int)×(Int)→PV:=fun (hn,ls,l,link,tick)=>.tuple [I (Ed hn ls l link tick).1,I (Ed hn ls l link tick).2]
def nD:(Int)×(List Lnk)×(List Snd)×(Int)×(Int)→Prop:=fun (hn,ls,l,link,tick)=>True
noncomputable def e_left:Nat×Ent:=(61,.v (Ah MR nC nD))
theorem Aef:∀i j,MR i=MR j→i=j:=by
 rintro ⟨hn₁,ls₁,l₁,link₁,tick₁⟩ ⟨hn₂,ls₂,l₂,link₂,tick₂⟩ h
 simp only[MR,List.cons.injEq,and_true,PV.lits.injEq,PV.int.injEq,PV.agg.injEq,true_and,AM,AF]at h
 simp [h] <;> omega
theorem Aeg (hn:Int) (ls:List Lnk) (l:List Snd) (link:Int) (tick:Int):Ah MR nC nD [.agg [I hn,Ax ls],Av l,I link,I tick]=some (.tuple [I (Ed hn ls l link tick).1,I (Ed hn ls l link tick).2]):=AC Aef (i:=(hn,ls,l,link,tick)) trivial
def nE:Prop:=∀(hn:Int) (ls:List Lnk) (l:List Snd) (link:Int) (tick:Int) ,VC Try.prog 61 [.agg [I hn,Ax ls],Av l,I link,I tick] (.tuple [I (Ed hn ls l link tick).1,I (Ed hn ls l link tick).2])
def nF:Prop:=AL Try.prog e_left.1 e_left.2
theorem Aeh (c:nE):nF:=Ap fun⟨hn,ls,l,link,tick⟩ h=>c hn ls l link tick
theorem Aei:nE:=by
 intro hn ls l link tick
 refine A3 AP (l := [e_right,e_cap]) ((Ad J3 (Ad Ab3 An))) [] []  Try.func61 rfl (by decide +kernel) (N:=63) rfl (by simp) rfl (by kernel_rfl) fun hs=>?_
 simp only[AJ,PV.small,List.length_map,and_true,true_and]at hs
 by_cases h:AN hn ls l=0
 case neg =>
  rw [show Ed hn ls l link tick=(0,AN hn ls l) by simp[Ed,h]]
  generalize hr:AN hn ls l=r at *
  simp +contextual (maxSteps:=4000000) only[↓bdD,bdP,Nat.reduceLT,Nat.reduceBEq,Ai,Nat.reduceAdd,st0,↓reduceIte,e_right,BZ,e_cap,Ac,Ab,Try.f61,Au,AB,h,hr]
 have ok:=right_zero.1 h
 have hlen:=ok.len
 by_cases hb:link<0∨(ls.length:Int)≤link∨tick<0∨1000000≤tick
 ·rw [show Ed hn ls l link tick=(0,1) by simp only[Ed,h,ne_eq,not_true_eq_false,if_false];rw[if_pos hb]]
  have e:link<0∨(¬link<0∧(ls.length:Int)≤link)∨(¬link<0∧¬(ls.length:Int)≤link∧tick<0)∨(¬link<0∧¬(ls.length:Int)≤link∧¬tick<0∧1000000≤tick):=by omega
  rcases e with e | e | e | e
  ·simp +contextual (maxSteps:=4000000) only[↓bdD,bdP,Nat.reduceLT,Nat.reduceBEq,Ai,Nat.reduceAdd,st0,↓reduceIte,e_right,BZ,e_cap,Ac,Ab,Try.f61,Au,AB,h,e]
  ·simp +contextual (maxSteps:=4000000) only[↓bdD,bdP,Nat.reduceLT,Nat.reduceBEq,Ai,Nat.reduceAdd,st0,↓reduceIte,e_right,BZ,e_cap,Ac,Ab,Try.f61,By,Au,AB,h,e]
  ·simp +contextual (maxSteps:=4000000) only[↓bdD,bdP,Nat.reduceLT,Nat.reduceBEq,Ai,Nat.reduceAdd,st0,↓reduceIte,e_right,BZ,e_cap,Ac,Ab,Try.f61,By,Au,AB,h,e]
  ·simp +contextual (maxSteps:=4000000) only[↓bdD,bdP,Nat.reduceLT,Nat.reduceBEq,Ai,Nat.reduceAdd,st0,↓reduceIte,e_right,BZ,e_cap,Ac,Ab,Try.f61,By,Au,AB,h,e]
 rw [show Ed hn ls l link tick=(CT ls link tick-Ba l link tick l.length,0) by simp only[Ed,h,ne_eq,not_true_eq_false,if_false];rw[if_neg hb]]
 have e:¬link<0∧¬(ls.length:Int)≤link∧¬tick<0∧¬1000000≤tick∧0≤link∧link<(ls.length:Int)∧0≤tick:=by omega
 have hcap:=ES ok.net e.2.2.2.2.1 e.2.2.2.2.2.1 (tick:=tick)
 have hb:=ok.smB
 generalize hr:CT ls link tick-Ba l link tick l.length=r
 simp +contextual (maxSteps:=4000000) only[↓bdD,bdP,Nat.reduceLT,Nat.reduceBEq,Nat.reduceEqDiff,Nat.reduceAdd,st0,↓reduceIte,e_right,BZ,e_cap,mM,Ac,Ab,Try.f61,ty3,By,Au,AB,h,e]
 refine Ay [11,13,43,44,45,46,47,48,49,50,51,52,53,54,55,56,57,58,59,60,61] l.length (fun k ρ st'=>ρ 43=I k∧ρ 11=I (CT ls link tick-Ba l link tick k)) (.refl _) ?_ ?_
 ·simp +contextual (maxSteps:=4000000) only[↓bdD,bdP,Nat.reduceBEq,Ba,Int.sub_zero]
 ·rintro k ρ ⟨ob,M⟩ hk ⟨h43,h11⟩
  by_cases hlt:k<l.length
  ·have hw1:IntKind.i64.wrap ((k:Int)+1)=((k+1:Nat):Int):=by rw[Aj (by omega) (by omega)];omega
   have hs:=MQ hb link tick k hk
   have hbk:=hb.2 k hlt
   have hstep:Ba l link tick (k+1)=Ba l link tick k+if (l.getD k dS).1=link∧(l.getD k dS).2.1=tick then (l.getD k dS).2.2 else 0:=rfl
   generalize hx:l.getD k dS=x at *
   by_cases e1:x.1=link
   ·by_cases e2:x.2.1=tick
    ·rw [if_pos ⟨e1,e2⟩]at hstep
     have hw2:IntKind.i64.wrap (CT ls link tick-Ba l link tick k-x.2.2)=CT ls link tick-Ba l link tick (k+1):=by rw[hstep,Aj (by omega) (by omega)];omega
     simp +contextual (maxSteps:=4000000) only[↓bdD,bdP,Nat.reduceLT,Nat.reduceBEq,Nat.reduceAdd,Store.new,Store.set,↓reduceIte,Aw,ty3,AB,Bv,h43,h11,hlt,hx,e1,e2,hw1,hw2]
    ·rw [if_neg (fun h=>e2 h.2),Int.add_zero]at hstep
     simp +contextual (maxSteps:=4000000) only[↓bdD,bdP,Nat.reduceLT,Nat.reduceBEq,Nat.reduceAdd,Store.new,Store.set,↓reduceIte,Aw,ty3,AB,Bv,h43,h11,hlt,hx,e1,e2,hw1,hstep]
   ·rw [if_neg (fun h=>e1 h.1),Int.add_zero]at hstep
    simp +contextual (maxSteps:=4000000) only[↓bdD,bdP,Nat.reduceLT,Nat.reduceBEq,Nat.reduceAdd,Store.new,Store.set,↓reduceIte,Aw,ty3,AB,Bv,h43,h11,hlt,hx,e1,hw1,hstep]
  ·have e:k=l.length:=by omega
   subst e
   rw [hr]at h11
   simp +contextual (maxSteps:=4000000) only[↓bdD,bdP,Nat.reduceLT,Nat.reduceBEq,Ai,↓reduceIte,h43,h11]
theorem Aej:nF:=Aeh Aei
end Sim
