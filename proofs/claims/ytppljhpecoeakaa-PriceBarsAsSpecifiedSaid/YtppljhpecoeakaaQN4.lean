/- What functions of this seat compute, by values: contracts (lemmas of the statement's proof, under the conditions that each names). -/
import Derived.Test.YtppljhpecoeakaaQN2
set_option maxRecDepth 10000
set_option maxHeartbeats 2000000
set_option linter.unusedVariables false
set_option linter.unusedSimpArgs false
namespace Sim
open Go Go.Proofs
attribute [local congr] Ap Aq Al AC As Ar Av
structure OKr (hn:Int) (ls:List Lnk) (l:List Snd):Prop where
 net : OKn hn ls
 len : l.length≤2000
 link : ∀k,k<l.length→0≤(l.getD k dS).1∧(l.getD k dS).1<(ls.length:Int)
 tick : ∀k,k<l.length→0≤(l.getD k dS).2.1∧(l.getD k dS).2.1<1000000
 bytes : ∀k,k<l.length→1≤(l.getD k dS).2.2∧(l.getD k dS).2.2≤1073741824
 asc : ∀k,0<k→k<l.length→(l.getD (k-1) dS).2.1<(l.getD k dS).2.1∨((l.getD (k-1) dS).2.1=(l.getD k dS).2.1∧(l.getD (k-1) dS).1<(l.getD k dS).1)
theorem S7 {ls:List Lnk} {l:List Snd}:∀ {k},rgT ls l k=0↔∀i,i<k→SZ ls l i=0
 | 0=>⟨fun _ h g=>absurd g (by omega),fun _=>rfl⟩
 | k+1=>by
  have ih:=@S7 ls l k
  simp only[rgT]
  by_cases h:rgT ls l k=0
  ·rw [if_neg (fun hn=>hn h)]
   constructor
   ·intro hb i hi
    by_cases e:i=k
    ·subst e;exact hb
    ·exact ih.1 h i (by omega)
   ·intro g;exact g k (by omega)
  ·rw [if_pos h]
   exact ⟨fun g=>absurd g h,fun g=>absurd (ih.2 fun i hi=>g i (by omega)) h⟩
theorem sndE_zero {ls:List Lnk} {l:List Snd} {k:Nat}:SZ ls l k=0↔(0≤(l.getD k dS).1∧(l.getD k dS).1<(ls.length:Int))∧(0≤(l.getD k dS).2.1∧(l.getD k dS).2.1<1000000)∧(1≤(l.getD k dS).2.2∧(l.getD k dS).2.2≤1073741824)∧(0<k→(l.getD (k-1) dS).2.1<(l.getD k dS).2.1∨((l.getD (k-1) dS).2.1=(l.getD k dS).2.1∧(l.getD (k-1) dS).1<(l.getD k dS).1)):=by
 unfold SZ
 generalize l.getD k dS=x
 generalize l.getD (k-1) dS=y
 split
 ·constructor
  ·intro h;cases h
  ·omega
 ·split
  ·constructor
   ·intro h;cases h
   ·omega
  ·split
   ·constructor
    ·intro h;cases h
    ·omega
   ·constructor
    ·intro; omega
    ·intro; rfl
theorem right_zero {hn:Int} {ls:List Lnk} {l:List Snd}:AR hn ls l=0↔OKr hn ls l:=by
 unfold AR
 split
 ·rename_i h
  exact ⟨fun g=>absurd g h,fun g=>absurd (check_zero.2 g.net) h⟩
 ·rename_i h
  have h:=check_zero.1 (Classical.not_not.1 h)
  split
  ·exact ⟨fun g=>(by cases g),fun g=>(by have:=g.len;omega)⟩
  ·rw [S7]
   constructor
   ·intro g
    exact ⟨h,by omega,fun k hk=>(sndE_zero.1 (g k hk)).1,fun k hk=>(sndE_zero.1 (g k hk)).2.1,fun k hk=>(sndE_zero.1 (g k hk)).2.2.1,fun k h0 hk=>(sndE_zero.1 (g k hk)).2.2.2 h0⟩
   ·intro g k hk
    exact sndE_zero.2 ⟨g.link k hk,g.tick k hk,g.bytes k hk,fun h0=>g.asc k h0 hk⟩
def CQ (ls:List Lnk) (link tick:Int):Int:=DL (ls.getD link.toNat dL) (tick.toNat % 24)
def Fc (ls:List Lnk) (link tick:Int):Int:=El (ls.getD link.toNat dL) (tick.toNat % 24)
theorem MA {t:Int} (h:0≤t):Int.tmod t 24=((t.toNat % 24:Nat):Int):=by
 rw [Int.tmod_eq_emod_of_nonneg h];omega
theorem DH {a:Int} {n:Nat} (h0:0≤a) (h:a<(n:Int)):a.toNat<n:=by omega
noncomputable def S8:(Int)×(List Lnk)×(Int)×(Int)→List PV:=fun (hn,ls,link,tick) => [.agg [I hn,Aw ls],I link,I tick]
noncomputable def Aaq:(Int)×(List Lnk)×(Int)×(Int)→PV:=fun (hn,ls,link,tick)=>I (CQ ls link tick)
def Aar:(Int)×(List Lnk)×(Int)×(Int)→Prop:=fun (hn,ls,link,tick)=>0≤link∧link<(ls.length:Int)∧0≤tick
noncomputable def e_cap:Nat×Ent:=(69,.v (Ag S8 Aaq Aar))
theorem Ag9:∀i j,S8 i=S8 j→i=j:=by
 rintro ⟨hn₁,ls₁,link₁,tick₁⟩ ⟨hn₂,ls₂,link₂,tick₂⟩ h
 simp only[S8,List.cons.injEq,and_true,PV.lits.injEq,PV.int.injEq,PV.agg.injEq,true_and,AD]at h
 simp [h] <;> omega
theorem kU (hn:Int) (ls:List Lnk) (link:Int) (tick:Int):Ag S8 Aaq Aar [.agg [I hn,Aw ls],I link,I tick]=@ite (Option (PV)) (0≤link∧link<(ls.length:Int)∧0≤tick) (Classical.propDecidable _) (some (I (CQ ls link tick))) none:=BU Ag9 (hn,ls,link,tick)
def Aas:Prop:=∀(hn:Int) (ls:List Lnk) (link:Int) (tick:Int) (h:0≤link∧link<(ls.length:Int)∧0≤tick) ,VC Try.prog 69 [.agg [I hn,Aw ls],I link,I tick] (I (CQ ls link tick))
def Aat:Prop:=AL Try.prog e_cap.1 e_cap.2
theorem Aha (c:Aas):Aat:=At fun⟨hn,ls,link,tick⟩ h=>c hn ls link tick h
theorem Ahb:Aas:=by
 rintro hn ls link tick ⟨h0,h1,h2⟩
 refine A5 AO (l := []) (An) [] []  Try.func69 rfl (by decide +kernel) (N:=16) rfl (by simp) rfl (by kernel_rfl) fun hs=>?_
 simp only[AI,PV.small,List.length_map,and_true,true_and]at hs
 unfold CQ
 have h3:=MA h2
 have h4:tick.toNat % 24<24:=Nat.mod_lt _ (by omega)
 have h4i:((tick.toNat % 24:Nat):Int)<24:=by omega
 generalize tick.toNat % 24=h at *
 have h5:=DH h0 h1
 have h6:=Int.toNat_of_nonneg h0
 generalize link.toNat=k at *
 generalize hr:DL (ls.getD k dL) h=r
 subst h6
 simp +contextual (maxSteps:=4000000) only[↓bdD,bdP,Nat.reduceLT,Nat.reduceBEq,Ah,Nat.reduceAdd,Int.reduceEq,st0,↓reduceIte,Bk,CE,Nat.mul_one,Try.f69,ty3,By,Au,If,Ca,h0,h1,h3,h4,h4i,h5,hr]
theorem Aau:Aat:=Aha Ahb
noncomputable def MC:(Int)×(List Lnk)×(Int)×(Int)→List PV:=fun (hn,ls,link,tick) => [.agg [I hn,Aw ls],I link,I tick]
noncomputable def kV:(Int)×(List Lnk)×(Int)×(Int)→PV:=fun (hn,ls,link,tick)=>I (CQ ls link tick)
def kW:(Int)×(List Lnk)×(Int)×(Int)→Prop:=fun (hn,ls,link,tick)=>0≤link∧link<(ls.length:Int)∧0≤tick
noncomputable def e_rcap:Nat×Ent:=(48,.v (Ag MC kV kW))
theorem Acw:∀i j,MC i=MC j→i=j:=by
 rintro ⟨hn₁,ls₁,link₁,tick₁⟩ ⟨hn₂,ls₂,link₂,tick₂⟩ h
 simp only[MC,List.cons.injEq,and_true,PV.lits.injEq,PV.int.injEq,PV.agg.injEq,true_and,AD]at h
 simp [h] <;> omega
theorem V5 (hn:Int) (ls:List Lnk) (link:Int) (tick:Int):Ag MC kV kW [.agg [I hn,Aw ls],I link,I tick]=@ite (Option (PV)) (0≤link∧link<(ls.length:Int)∧0≤tick) (Classical.propDecidable _) (some (I (CQ ls link tick))) none:=BU Acw (hn,ls,link,tick)
def kX:Prop:=∀(hn:Int) (ls:List Lnk) (link:Int) (tick:Int) (h:0≤link∧link<(ls.length:Int)∧0≤tick) ,VC Try.prog 48 [.agg [I hn,Aw ls],I link,I tick] (I (CQ ls link tick))
def kY:Prop:=AL Try.prog e_rcap.1 e_rcap.2
theorem Acx (c:kX):kY:=At fun⟨hn,ls,link,tick⟩ h=>c hn ls link tick h
theorem Acy:kX:=by
 rintro hn ls link tick ⟨h0,h1,h2⟩
 refine A5 AO (l := []) (An) [] []  Try.func48 rfl (by decide +kernel) (N:=16) rfl (by simp) rfl (by kernel_rfl) fun hs=>?_
 simp only[AI,PV.small,List.length_map,and_true,true_and]at hs
 unfold CQ
 have h3:=MA h2
 have h4:tick.toNat % 24<24:=Nat.mod_lt _ (by omega)
 have h4i:((tick.toNat % 24:Nat):Int)<24:=by omega
 generalize tick.toNat % 24=h at *
 have h5:=DH h0 h1
 have h6:=Int.toNat_of_nonneg h0
 generalize link.toNat=k at *
 generalize hr:DL (ls.getD k dL) h=r
 subst h6
 simp +contextual (maxSteps:=4000000) only[↓bdD,bdP,Nat.reduceLT,Nat.reduceBEq,Ah,Nat.reduceAdd,Int.reduceEq,st0,↓reduceIte,Bk,CE,Nat.mul_one,Try.f48,ty3,By,Au,If,Ca,h0,h1,h3,h4,h4i,h5,hr]
theorem kZ:kY:=Acx Acy
def ftT (ls:List Lnk) (l:List Snd):Nat→Bool
 | 0=>false
 | k+1=>ftT ls l k||decide (CQ ls (l.getD k dS).1 (l.getD k dS).2.1<(l.getD k dS).2.2)
def Bz (hn:Int) (ls:List Lnk) (l:List Snd):Int:=if AR hn ls l≠0 then AR hn ls l else if ftT ls l l.length=true then 13 else 0
theorem W6 {ls:List Lnk} {l:List Snd} {k m:Nat} (h:ftT ls l k=true) (hk:k≤m):ftT ls l m=true:=by
 induction m with
 | zero=>rwa [show k=0 by omega]at h
 | succ m ih =>
  by_cases e:k=m+1
  ·rwa [←e]
  ·simp only[ftT,ih (by omega),Bool.true_or]
noncomputable def MD:(Int)×(List Lnk)×(List Snd)→List PV:=fun (hn,ls,l) => [.agg [I hn,Aw ls],Az l]
noncomputable def lA:(Int)×(List Lnk)×(List Snd)→PV:=fun (hn,ls,l)=>I (Bz hn ls l)
def lB:(Int)×(List Lnk)×(List Snd)→Prop:=fun (hn,ls,l)=>True
noncomputable def e_fits:Nat×Ent:=(54,.v (Ag MD lA lB))
theorem Acz:∀i j,MD i=MD j→i=j:=by
 rintro ⟨hn₁,ls₁,l₁⟩ ⟨hn₂,ls₂,l₂⟩ h
 simp only[MD,List.cons.injEq,and_true,PV.lits.injEq,PV.int.injEq,PV.agg.injEq,true_and,AN,AD]at h
 simp [h] <;> omega
theorem KE (hn:Int) (ls:List Lnk) (l:List Snd):Ag MD lA lB [.agg [I hn,Aw ls],Az l]=some (I (Bz hn ls l)):=Ax Acz (i:=(hn,ls,l)) trivial
def lC:Prop:=∀(hn:Int) (ls:List Lnk) (l:List Snd) ,VC Try.prog 54 [.agg [I hn,Aw ls],Az l] (I (Bz hn ls l))
def lE:Prop:=AL Try.prog e_fits.1 e_fits.2
theorem Ac0 (c:lC):lE:=At fun⟨hn,ls,l⟩ h=>c hn ls l
theorem Ac1:lC:=by
 intro hn ls l
 refine A5 AO (l := [e_right,e_cap]) ((Ad JM (Ad Aau An))) [27] []  Try.func54 rfl (by decide +kernel) (N:=30) rfl (by simp) rfl (by kernel_rfl) fun hs=>?_
 simp only[AI,PV.small,List.length_map,and_true,true_and]at hs
 by_cases h:AR hn ls l=0
 case neg =>
  rw [show Bz hn ls l=AR hn ls l by simp[Bz,h]]
  generalize hr:AR hn ls l=r at *
  simp +contextual (maxSteps:=4000000) only[↓bdD,bdP,Nat.reduceLT,Nat.reduceBEq,Ah,Nat.reduceAdd,st0,↓reduceIte,e_right,BP,e_cap,Ac,Ab,Try.f54,Au,AJ,h,hr]
 have ok:=right_zero.1 h
 have hlen:=ok.len
 rw [show Bz hn ls l=if ftT ls l l.length=true then 13 else 0 by simp[Bz,h]]
 generalize hr:(if ftT ls l l.length=true then (13:Int)else 0)=r
 simp +contextual (maxSteps:=4000000) only[↓bdD,bdP,Nat.reduceLT,Nat.reduceBEq,Nat.reduceAdd,st0,↓reduceIte,e_right,BP,e_cap,Ac,Ab,Try.f54,Au,AJ,h]
 refine Ay [4,7,16,17,18,19,20,21,22,23,24,25,26,27,28,29] l.length (fun k ρ st'=>ρ 16=I k∧ftT ls l k=false) (.refl _) ?_ ?_
 ·simp +contextual (maxSteps:=4000000) only[↓bdD,bdP,ftT]
 ·rintro k ρ ⟨ob,M⟩ hk ⟨h16,hz⟩
  by_cases hlt:k<l.length
  ·have hw1:IntKind.i64.wrap ((k:Int)+1)=((k+1:Nat):Int):=by rw[Ai (by omega) (by omega)];omega
   have e1:=ok.link k hlt
   have e2:=(ok.tick k hlt).1
   have hs:ftT ls l (k+1)=decide (CQ ls (l.getD k dS).1 (l.getD k dS).2.1<(l.getD k dS).2.2):=by simp only[ftT,hz,Bool.false_or]
   generalize hx:l.getD k dS=x at *
   by_cases hb:CQ ls x.1 x.2.1<x.2.2
   ·rw [decide_eq_true hb]at hs
    rw [if_pos (W6 hs (by omega))]at hr
    subst hr
    simp +contextual (maxSteps:=4000000) only[↓bdD,bdP,Nat.reduceLT,Nat.reduceBEq,Ah,Nat.reduceEqDiff,Nat.reduceAdd,Store.new,Store.set,↓reduceIte,kU,AH,Ab,ty3,Au,AJ,BT,h16,hlt,hx,e1,e2,hb]
   ·rw [decide_eq_false hb]at hs
    simp +contextual (maxSteps:=4000000) only[↓bdD,bdP,Nat.reduceLT,Nat.reduceBEq,Nat.reduceEqDiff,Nat.reduceAdd,Store.new,Store.set,↓reduceIte,kU,AH,Ab,ty3,Au,AJ,BT,h16,hlt,hx,e1,e2,hb,hs,hw1]
  ·have e:k=l.length:=by omega
   subst e
   rw [hz,if_neg (by simp)]at hr
   subst hr
   simp +contextual (maxSteps:=4000000) only[↓bdD,bdP,Nat.reduceLT,Nat.reduceBEq,Ah,↓reduceIte,h16]
theorem lF:lE:=Ac0 Ac1
noncomputable def JN:(Int)×(List Lnk)×(List Snd)→List PV:=fun (hn,ls,l) => [.agg [I hn,Aw ls],Az l]
noncomputable def W7:(Int)×(List Lnk)×(List Snd)→PV:=fun (hn,ls,l)=>I (Bz hn ls l)
def W8:(Int)×(List Lnk)×(List Snd)→Prop:=fun (hn,ls,l)=>True
noncomputable def e_rfits:Nat×Ent:=(56,.v (Ag JN W7 W8))
theorem wQ:∀i j,JN i=JN j→i=j:=by
 rintro ⟨hn₁,ls₁,l₁⟩ ⟨hn₂,ls₂,l₂⟩ h
 simp only[JN,List.cons.injEq,and_true,PV.lits.injEq,PV.int.injEq,PV.agg.injEq,true_and,AN,AD]at h
 simp [h] <;> omega
theorem LA (hn:Int) (ls:List Lnk) (l:List Snd):Ag JN W7 W8 [.agg [I hn,Aw ls],Az l]=some (I (Bz hn ls l)):=Ax wQ (i:=(hn,ls,l)) trivial
def W9:Prop:=∀(hn:Int) (ls:List Lnk) (l:List Snd) ,VC Try.prog 56 [.agg [I hn,Aw ls],Az l] (I (Bz hn ls l))
def Xa:Prop:=AL Try.prog e_rfits.1 e_rfits.2
theorem wR (c:W9):Xa:=At fun⟨hn,ls,l⟩ h=>c hn ls l
theorem wS:W9:=by
 intro hn ls l
 refine A5 AO (l := [e_rright,e_rcap]) ((Ad S6 (Ad kZ An))) [35] []  Try.func56 rfl (by decide +kernel) (N:=37) rfl (by simp) rfl (by kernel_rfl) fun hs=>?_
 simp only[AI,PV.small,List.length_map,and_true,true_and]at hs
 by_cases h:AR hn ls l=0
 case neg =>
  rw [show Bz hn ls l=AR hn ls l by simp[Bz,h]]
  generalize hr:AR hn ls l=r at *
  simp +contextual (maxSteps:=4000000) only[↓bdD,bdP,Nat.reduceLT,Nat.reduceBEq,Ah,Nat.reduceAdd,st0,↓reduceIte,e_rright,EX,e_rcap,Ac,Ab,Try.f56,Au,AJ,h,hr]
 have ok:=right_zero.1 h
 have hlen:=ok.len
 rw [show Bz hn ls l=if ftT ls l l.length=true then 13 else 0 by simp[Bz,h]]
 generalize hr:(if ftT ls l l.length=true then (13:Int)else 0)=r
 simp +contextual (maxSteps:=4000000) only[↓bdD,bdP,Nat.reduceLT,Nat.reduceBEq,Nat.reduceAdd,st0,↓reduceIte,e_rright,EX,e_rcap,Ac,Ab,Try.f56,Au,AJ,h]
 refine Ay [4,6,13,14,15,16,17,18,19,20,21,22,23,24,25,26,27,28,29,30,31,32,33,34,35,36] l.length (fun k ρ st'=>ρ 6=I k∧ftT ls l k=false) (.refl _) ?_ ?_
 ·simp +contextual (maxSteps:=4000000) only[↓bdD,bdP,ftT]
 ·rintro k ρ ⟨ob,M⟩ hk ⟨h6,hz⟩
  by_cases hlt:k<l.length
  ·have hw1:IntKind.i64.wrap ((k:Int)+1)=((k+1:Nat):Int):=by rw[Ai (by omega) (by omega)];omega
   have e1:=ok.link k hlt
   have e2:=(ok.tick k hlt).1
   have hs:ftT ls l (k+1)=decide (CQ ls (l.getD k dS).1 (l.getD k dS).2.1<(l.getD k dS).2.2):=by simp only[ftT,hz,Bool.false_or]
   generalize hx:l.getD k dS=x at *
   by_cases hb:CQ ls x.1 x.2.1<x.2.2
   ·rw [decide_eq_true hb]at hs
    rw [if_pos (W6 hs (by omega))]at hr
    subst hr
    simp +contextual (maxSteps:=4000000) only[↓bdD,bdP,Nat.reduceLT,Nat.reduceBEq,Ah,Nat.reduceEqDiff,Nat.reduceAdd,↓reduceIte,V5,AH,Ab,ty3,Au,AJ,BT,h6,hlt,hx,e1,e2,hb]
   ·rw [decide_eq_false hb]at hs
    simp +contextual (maxSteps:=4000000) only[↓bdD,bdP,Nat.reduceLT,Nat.reduceBEq,Nat.reduceEqDiff,Nat.reduceAdd,↓reduceIte,V5,AH,Ab,ty3,Au,AJ,BT,h6,hlt,hx,e1,e2,hb,hs,hw1]
  ·have e:k=l.length:=by omega
   subst e
   rw [hz,if_neg (by simp)]at hr
   subst hr
   simp +contextual (maxSteps:=4000000) only[↓bdD,bdP,Nat.reduceLT,Nat.reduceBEq,Ah,Nat.reduceAdd,↓reduceIte,AJ,h6]
theorem wT:Xa:=wR wS
end Sim
namespace Sim
open Go Go.Proofs
attribute [local congr] Ap Aq Al AC As Ar Av
theorem JO {hn:Int} {ls:List Lnk} (h:OKn hn ls) {link tick:Int} (h0:0≤link) (h1:link<(ls.length:Int)):0≤Fc ls link tick∧Fc ls link tick≤1000000:=by
 have := h.hours link.toNat (tick.toNat % 24) (DH h0 h1) (Nat.mod_lt _ (by omega))
 exact ⟨this.2.2.1,this.2.2.2⟩
theorem EH {hn:Int} {ls:List Lnk} (h:OKn hn ls) {link tick:Int} (h0:0≤link) (h1:link<(ls.length:Int)):0≤CQ ls link tick∧CQ ls link tick≤1073741824:=by
 have := h.hours link.toNat (tick.toNat % 24) (DH h0 h1) (Nat.mod_lt _ (by omega))
 exact ⟨this.1,this.2.1⟩
def Fp (ls:List Lnk) (l:List Snd):Nat→Int
 | 0=>0
 | k+1=>Fp ls l k+(l.getD k dS).2.2*Fc ls (l.getD k dS).1 (l.getD k dS).2.1
def FO (hn:Int) (ls:List Lnk) (l:List Snd):Int:=if AR hn ls l≠0 then 0 else Fp ls l l.length
theorem Ou {a b A B:Int} (h0:0≤a) (h1:a≤A) (h2:0≤b) (h3:b≤B):0≤a*b∧a*b≤A*B :=
 ⟨Int.mul_nonneg h0 h2,Int.mul_le_mul h1 h3 h2 (by omega)⟩
theorem S9 {hn:Int} {ls:List Lnk} {l:List Snd} (ok:OKr hn ls l):∀k:Nat,k≤l.length→0≤Fp ls l k∧Fp ls l k≤1073741824000000*(k:Int)
 | 0,_=>⟨Int.le_refl _,by simp[Fp]⟩
 | k+1,h=>by
  have ih:=S9 ok k (by omega)
  have h1:=ok.link k (by omega)
  have h2:=ok.bytes k (by omega)
  have h3:=JO ok.net h1.1 h1.2 (tick:=(l.getD k dS).2.1)
  have h4:=Ou (by omega) h2.2 h3.1 h3.2
  simp only[Fp]
  omega
theorem wU {hn:Int} {ls:List Lnk} {l:List Snd} (ok:OKr hn ls l) {k:Nat} (h:k<l.length):IntKind.i64.wrap ((l.getD k dS).2.2*Fc ls (l.getD k dS).1 (l.getD k dS).2.1)=(l.getD k dS).2.2*Fc ls (l.getD k dS).1 (l.getD k dS).2.1 ∧
  IntKind.i64.wrap (Fp ls l k+(l.getD k dS).2.2*Fc ls (l.getD k dS).1 (l.getD k dS).2.1)=Fp ls l (k+1):=by
 have h0:=ok.len
 have h1:=ok.link k h
 have h2:=ok.bytes k h
 have h3:=JO ok.net h1.1 h1.2 (tick:=(l.getD k dS).2.1)
 have h4:=Ou (by omega) h2.2 h3.1 h3.2
 have h5:=S9 ok k (by omega)
 exact ⟨Ai (by omega) (by omega),Ai (by omega) (by omega)⟩
noncomputable def ME:(Int)×(List Lnk)×(List Snd)→List PV:=fun (hn,ls,l) => [.agg [I hn,Aw ls],Az l]
noncomputable def lG:(Int)×(List Lnk)×(List Snd)→PV:=fun (hn,ls,l)=>.tuple [I (FO hn ls l),I (AR hn ls l)]
def lH:(Int)×(List Lnk)×(List Snd)→Prop:=fun (hn,ls,l)=>True
noncomputable def e_cost:Nat×Ent:=(25,.v (Ag ME lG lH))
theorem Ac2:∀i j,ME i=ME j→i=j:=by
 rintro ⟨hn₁,ls₁,l₁⟩ ⟨hn₂,ls₂,l₂⟩ h
 simp only[ME,List.cons.injEq,and_true,PV.lits.injEq,PV.int.injEq,PV.agg.injEq,true_and,AN,AD]at h
 simp [h] <;> omega
theorem Ac3 (hn:Int) (ls:List Lnk) (l:List Snd):Ag ME lG lH [.agg [I hn,Aw ls],Az l]=some (.tuple [I (FO hn ls l),I (AR hn ls l)]):=Ax Ac2 (i:=(hn,ls,l)) trivial
def lI:Prop:=∀(hn:Int) (ls:List Lnk) (l:List Snd) ,VC Try.prog 25 [.agg [I hn,Aw ls],Az l] (.tuple [I (FO hn ls l),I (AR hn ls l)])
def lJ:Prop:=AL Try.prog e_cost.1 e_cost.2
theorem Ac4 (c:lI):lJ:=At fun⟨hn,ls,l⟩ h=>c hn ls l
theorem Ac5:lI:=by
 intro hn ls l
 refine A5 AO (l := [e_right]) ((Ad JM An)) [] []  Try.func25 rfl (by decide +kernel) (N:=40) rfl (by simp) rfl (by kernel_rfl) fun hs=>?_
 simp only[AI,PV.small,List.length_map,and_true,true_and]at hs
 by_cases h:AR hn ls l=0
 case neg =>
  rw [show FO hn ls l=0 by simp[FO,h]]
  generalize hr:AR hn ls l=r at *
  simp +contextual (maxSteps:=4000000) only[↓bdD,bdP,Nat.reduceLT,Nat.reduceBEq,Ah,Nat.reduceAdd,st0,↓reduceIte,e_right,BP,Ac,Ab,Try.f25,Au,AJ,h,hr]
 have ok:=right_zero.1 h
 have hlen:=ok.len
 rw [show FO hn ls l=Fp ls l l.length by simp[FO,h],h]
 generalize hr:Fp ls l l.length=r
 simp +contextual (maxSteps:=4000000) only[↓bdD,bdP,Nat.reduceLT,Nat.reduceBEq,Nat.reduceAdd,st0,↓reduceIte,e_right,BP,Ac,Ab,Try.f25,Au,AJ,h]
 refine Ay [7,9,18,19,20,21,22,23,24,25,26,27,28,29,30,31,32,33,34,35,36,37,38] l.length (fun k ρ st'=>ρ 18=I k∧ρ 7=I (Fp ls l k)) (.refl _) ?_ ?_
 ·simp +contextual (maxSteps:=4000000) only[↓bdD,bdP,Nat.reduceBEq,Fp]
 ·rintro k ρ ⟨ob,M⟩ hk ⟨h18,h7⟩
  by_cases hlt:k<l.length
  ·have hw1:IntKind.i64.wrap ((k:Int)+1)=((k+1:Nat):Int):=by rw[Ai (by omega) (by omega)];omega
   have e1:=ok.link k hlt
   have e2:=(ok.tick k hlt).1
   have hw:=wU ok hlt
   generalize hx:l.getD k dS=x at *
   have h3:=MA e2
   have h4:x.2.1.toNat % 24<24:=Nat.mod_lt _ (by omega)
   have h4i:((x.2.1.toNat % 24:Nat):Int)<24:=by omega
   unfold Fc at hw
   generalize x.2.1.toNat % 24=hh at *
   have h5:=DH e1.1 e1.2
   have h6:=Int.toNat_of_nonneg e1.1
   generalize x.1.toNat=kk at *
   simp +contextual (maxSteps:=4000000) only[↓bdD,bdP,Nat.reduceLT,Nat.reduceBEq,Nat.reduceAdd,Int.reduceEq,Store.new,Store.set,↓reduceIte,AH,Bk,Ee,Nat.mul_one,ty3,By,Au,AJ,If,Ca,BT,h18,h7,hlt,hx,h3,h4,h4i,h5,←h6,hw,hw1]
  ·have e:k=l.length:=by omega
   subst e
   rw [hr]at h7
   simp +contextual (maxSteps:=4000000) only[↓bdD,bdP,Nat.reduceLT,Nat.reduceBEq,Ah,↓reduceIte,h18,h7]
theorem Ac6:lJ:=Ac4 Ac5
def Ba (l:List Snd) (link tick:Int):Nat→Int
 | 0=>0
 | k+1=>Ba l link tick k+if (l.getD k dS).1=link∧(l.getD k dS).2.1=tick then (l.getD k dS).2.2 else 0
def D0 (hn:Int) (ls:List Lnk) (l:List Snd) (link tick:Int):Int×Int :=
 if AR hn ls l≠0 then (0,AR hn ls l)else if link<0∨(ls.length:Int)≤link∨tick<0∨1000000≤tick then (0,1)else (CQ ls link tick-Ba l link tick l.length,0)
def smB (l:List Snd):Prop:=l.length≤2000∧∀k,k<l.length→1≤(l.getD k dS).2.2∧(l.getD k dS).2.2≤1073741824
theorem MF {l:List Snd} (h:smB l) (link tick:Int):∀k:Nat,k≤l.length→0≤Ba l link tick k∧Ba l link tick k≤1073741824*(k:Int)
 | 0,_=>⟨Int.le_refl _,by simp[Ba]⟩
 | k+1,hk=>by
  have ih:=MF h link tick k (by omega)
  have h2:=h.2 k (by omega)
  simp only[Ba]
  split <;> omega
theorem OKr.smB {hn:Int} {ls:List Lnk} {l:List Snd} (h:OKr hn ls l):smB l:=⟨h.len,h.bytes⟩
noncomputable def MG:(Int)×(List Lnk)×(List Snd)×(Int)×(Int)→List PV:=fun (hn,ls,l,link,tick) => [.agg [I hn,Aw ls],Az l,I link,I tick]
noncomputable def lK:(Int)×(List Lnk)×(List Snd)×(Int)×(Int)→PV:=fun (hn,ls,l,link,tick)=>.tuple [I (D0 hn ls l link tick).1,I (D0 hn ls l link tick).2]
def lL:(Int)×(List Lnk)×(List Snd)×(Int)×(Int)→Prop:=fun (hn,ls,l,link,tick)=>True
noncomputable def e_left:Nat×Ent:=(61,.v (Ag MG lK lL))
theorem Ac7:∀i j,MG i=MG j→i=j:=by
 rintro ⟨hn₁,ls₁,l₁,link₁,tick₁⟩ ⟨hn₂,ls₂,l₂,link₂,tick₂⟩ h
 simp only[MG,List.cons.injEq,and_true,PV.lits.injEq,PV.int.injEq,PV.agg.injEq,true_and,AN,AD]at h
 simp [h] <;> omega
theorem Ac8 (hn:Int) (ls:List Lnk) (l:List Snd) (link:Int) (tick:Int):Ag MG lK lL [.agg [I hn,Aw ls],Az l,I link,I tick]=some (.tuple [I (D0 hn ls l link tick).1,I (D0 hn ls l link tick).2]):=Ax Ac7 (i:=(hn,ls,l,link,tick)) trivial
def lM:Prop:=∀(hn:Int) (ls:List Lnk) (l:List Snd) (link:Int) (tick:Int) ,VC Try.prog 61 [.agg [I hn,Aw ls],Az l,I link,I tick] (.tuple [I (D0 hn ls l link tick).1,I (D0 hn ls l link tick).2])
def lN:Prop:=AL Try.prog e_left.1 e_left.2
theorem Ac9 (c:lM):lN:=At fun⟨hn,ls,l,link,tick⟩ h=>c hn ls l link tick
theorem Ada:lM:=by
 intro hn ls l link tick
 refine A5 AO (l := [e_right,e_cap]) ((Ad JM (Ad Aau An))) [] []  Try.func61 rfl (by decide +kernel) (N:=63) rfl (by simp) rfl (by kernel_rfl) fun hs=>?_
 simp only[AI,PV.small,List.length_map,and_true,true_and]at hs
 by_cases h:AR hn ls l=0
 case neg =>
  rw [show D0 hn ls l link tick=(0,AR hn ls l) by simp[D0,h]]
  generalize hr:AR hn ls l=r at *
  simp +contextual (maxSteps:=4000000) only[↓bdD,bdP,Nat.reduceLT,Nat.reduceBEq,Ah,Nat.reduceAdd,st0,↓reduceIte,e_right,BP,e_cap,Ac,Ab,Try.f61,Au,AJ,h,hr]
 have ok:=right_zero.1 h
 have hlen:=ok.len
 by_cases hb:link<0∨(ls.length:Int)≤link∨tick<0∨1000000≤tick
 ·rw [show D0 hn ls l link tick=(0,1) by simp only[D0,h,ne_eq,not_true_eq_false,if_false];rw[if_pos hb]]
  have e:link<0∨(¬link<0∧(ls.length:Int)≤link)∨(¬link<0∧¬(ls.length:Int)≤link∧tick<0)∨(¬link<0∧¬(ls.length:Int)≤link∧¬tick<0∧1000000≤tick):=by omega
  rcases e with e | e | e | e
  ·simp +contextual (maxSteps:=4000000) only[↓bdD,bdP,Nat.reduceLT,Nat.reduceBEq,Ah,Nat.reduceAdd,st0,↓reduceIte,e_right,BP,e_cap,Ac,Ab,Try.f61,Au,AJ,h,e]
  ·simp +contextual (maxSteps:=4000000) only[↓bdD,bdP,Nat.reduceLT,Nat.reduceBEq,Ah,Nat.reduceAdd,st0,↓reduceIte,e_right,BP,e_cap,Ac,Ab,Try.f61,By,Au,AJ,h,e]
  ·simp +contextual (maxSteps:=4000000) only[↓bdD,bdP,Nat.reduceLT,Nat.reduceBEq,Ah,Nat.reduceAdd,st0,↓reduceIte,e_right,BP,e_cap,Ac,Ab,Try.f61,By,Au,AJ,h,e]
  ·simp +contextual (maxSteps:=4000000) only[↓bdD,bdP,Nat.reduceLT,Nat.reduceBEq,Ah,Nat.reduceAdd,st0,↓reduceIte,e_right,BP,e_cap,Ac,Ab,Try.f61,By,Au,AJ,h,e]
 rw [show D0 hn ls l link tick=(CQ ls link tick-Ba l link tick l.length,0) by simp only[D0,h,ne_eq,not_true_eq_false,if_false];rw[if_neg hb]]
 have e:¬link<0∧¬(ls.length:Int)≤link∧¬tick<0∧¬1000000≤tick∧0≤link∧link<(ls.length:Int)∧0≤tick:=by omega
 have hcap:=EH ok.net e.2.2.2.2.1 e.2.2.2.2.2.1 (tick:=tick)
 have hb:=ok.smB
 generalize hr:CQ ls link tick-Ba l link tick l.length=r
 simp +contextual (maxSteps:=4000000) only[↓bdD,bdP,Nat.reduceLT,Nat.reduceBEq,Nat.reduceEqDiff,Nat.reduceAdd,st0,↓reduceIte,e_right,BP,e_cap,kU,Ac,Ab,Try.f61,ty3,By,Au,AJ,h,e]
 refine Ay [11,13,43,44,45,46,47,48,49,50,51,52,53,54,55,56,57,58,59,60,61] l.length (fun k ρ st'=>ρ 43=I k∧ρ 11=I (CQ ls link tick-Ba l link tick k)) (.refl _) ?_ ?_
 ·simp +contextual (maxSteps:=4000000) only[↓bdD,bdP,Nat.reduceBEq,Ba,Int.sub_zero]
 ·rintro k ρ ⟨ob,M⟩ hk ⟨h43,h11⟩
  by_cases hlt:k<l.length
  ·have hw1:IntKind.i64.wrap ((k:Int)+1)=((k+1:Nat):Int):=by rw[Ai (by omega) (by omega)];omega
   have hs:=MF hb link tick k hk
   have hbk:=hb.2 k hlt
   have hstep:Ba l link tick (k+1)=Ba l link tick k+if (l.getD k dS).1=link∧(l.getD k dS).2.1=tick then (l.getD k dS).2.2 else 0:=rfl
   generalize hx:l.getD k dS=x at *
   by_cases e1:x.1=link
   ·by_cases e2:x.2.1=tick
    ·rw [if_pos ⟨e1,e2⟩]at hstep
     have hw2:IntKind.i64.wrap (CQ ls link tick-Ba l link tick k-x.2.2)=CQ ls link tick-Ba l link tick (k+1):=by rw[hstep,Ai (by omega) (by omega)];omega
     simp +contextual (maxSteps:=4000000) only[↓bdD,bdP,Nat.reduceLT,Nat.reduceBEq,Nat.reduceAdd,Store.new,Store.set,↓reduceIte,AH,ty3,AJ,BT,h43,h11,hlt,hx,e1,e2,hw1,hw2]
    ·rw [if_neg (fun h=>e2 h.2),Int.add_zero]at hstep
     simp +contextual (maxSteps:=4000000) only[↓bdD,bdP,Nat.reduceLT,Nat.reduceBEq,Nat.reduceAdd,Store.new,Store.set,↓reduceIte,AH,ty3,AJ,BT,h43,h11,hlt,hx,e1,e2,hw1,hstep]
   ·rw [if_neg (fun h=>e1 h.1),Int.add_zero]at hstep
    simp +contextual (maxSteps:=4000000) only[↓bdD,bdP,Nat.reduceLT,Nat.reduceBEq,Nat.reduceAdd,Store.new,Store.set,↓reduceIte,AH,ty3,AJ,BT,h43,h11,hlt,hx,e1,hw1,hstep]
  ·have e:k=l.length:=by omega
   subst e
   rw [hr]at h11
   simp +contextual (maxSteps:=4000000) only[↓bdD,bdP,Nat.reduceLT,Nat.reduceBEq,Ah,↓reduceIte,h43,h11]
theorem Adb:lN:=Ac9 Ada
end Sim
