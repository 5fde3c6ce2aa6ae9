/- What functions of this seat compute, by values: contracts (lemmas of the statement's proof, under the conditions that each names). -/
import Derived.Test.YtppljhpecoeakaaQN2
set_option maxRecDepth 10000
set_option maxHeartbeats 2000000
set_option linter.unusedVariables false
set_option linter.unusedSimpArgs false
namespace Sim
open Go Go.Proofs
attribute [local congr] An Ao Al AC Aq Ap Av
structure OKr (hn:Int) (ls:List Lnk) (l:List Snd):Prop where
 net : OKn hn ls
 len : l.length≤2000
 link : ∀k,k<l.length→0≤(l.getD k dS).1∧(l.getD k dS).1<(ls.length:Int)
 tick : ∀k,k<l.length→0≤(l.getD k dS).2.1∧(l.getD k dS).2.1<1000000
 bytes : ∀k,k<l.length→1≤(l.getD k dS).2.2∧(l.getD k dS).2.2≤1073741824
 asc : ∀k,0<k→k<l.length→(l.getD (k-1) dS).2.1<(l.getD k dS).2.1∨((l.getD (k-1) dS).2.1=(l.getD k dS).2.1∧(l.getD (k-1) dS).1<(l.getD k dS).1)
theorem S3 {ls:List Lnk} {l:List Snd}:∀ {k},rgT ls l k=0↔∀i,i<k→SV ls l i=0
 | 0=>⟨fun _ h g=>absurd g (by omega),fun _=>rfl⟩
 | k+1=>by
  have ih:=@S3 ls l k
  simp only[rgT]
  by_cases h:rgT ls l k=0
  ·rw [if_neg (fun hn=>hn h)]
   constructor
   ·intro hb i hi
    by_cases e:i=k
    ·subst e;exact hb
    ·exact ih.1 h i (by omega)
   ·intro g;exact g k (by omega)
  ·rw [if_pos h]
   exact ⟨fun g=>absurd g h,fun g=>absurd (ih.2 fun i hi=>g i (by omega)) h⟩
theorem sndE_zero {ls:List Lnk} {l:List Snd} {k:Nat}:SV ls l k=0↔(0≤(l.getD k dS).1∧(l.getD k dS).1<(ls.length:Int))∧(0≤(l.getD k dS).2.1∧(l.getD k dS).2.1<1000000)∧(1≤(l.getD k dS).2.2∧(l.getD k dS).2.2≤1073741824)∧(0<k→(l.getD (k-1) dS).2.1<(l.getD k dS).2.1∨((l.getD (k-1) dS).2.1=(l.getD k dS).2.1∧(l.getD (k-1) dS).1<(l.getD k dS).1)):=by
 unfold SV
 generalize l.getD k dS=x
 generalize l.getD (k-1) dS=y
 split
 ·constructor
  ·intro h;cases h
  ·omega
 ·split
  ·constructor
   ·intro h;cases h
   ·omega
  ·split
   ·constructor
    ·intro h;cases h
    ·omega
   ·constructor
    ·intro; omega
    ·intro; rfl
theorem right_zero {hn:Int} {ls:List Lnk} {l:List Snd}:AQ hn ls l=0↔OKr hn ls l:=by
 unfold AQ
 split
 ·rename_i h
  exact ⟨fun g=>absurd g h,fun g=>absurd (check_zero.2 g.net) h⟩
 ·rename_i h
  have h:=check_zero.1 (Classical.not_not.1 h)
  split
  ·exact ⟨fun g=>(by cases g),fun g=>(by have:=g.len;omega)⟩
  ·rw [S3]
   constructor
   ·intro g
    exact ⟨h,by omega,fun k hk=>(sndE_zero.1 (g k hk)).1,fun k hk=>(sndE_zero.1 (g k hk)).2.1,fun k hk=>(sndE_zero.1 (g k hk)).2.2.1,fun k h0 hk=>(sndE_zero.1 (g k hk)).2.2.2 h0⟩
   ·intro g k hk
    exact sndE_zero.2 ⟨g.link k hk,g.tick k hk,g.bytes k hk,fun h0=>g.asc k h0 hk⟩
def CY (ls:List Lnk) (link tick:Int):Int:=DL (ls.getD link.toNat dL) (tick.toNat % 24)
def Fd (ls:List Lnk) (link tick:Int):Int:=El (ls.getD link.toNat dL) (tick.toNat % 24)
theorem My {t:Int} (h:0≤t):Int.tmod t 24=((t.toNat % 24:Nat):Int):=by
 rw [Int.tmod_eq_emod_of_nonneg h];omega
theorem DH {a:Int} {n:Nat} (h0:0≤a) (h:a<(n:Int)):a.toNat<n:=by omega
noncomputable def S4:(Int)×(List Lnk)×(Int)×(Int)→List PV:=fun (hn,ls,link,tick) => [.agg [I hn,Az ls],I link,I tick]
noncomputable def zK:(Int)×(List Lnk)×(Int)×(Int)→PV:=fun (hn,ls,link,tick)=>I (CY ls link tick)
def zL:(Int)×(List Lnk)×(Int)×(Int)→Prop:=fun (hn,ls,link,tick)=>0≤link∧link<(ls.length:Int)∧0≤tick
noncomputable def e_cap:Nat×Ent:=(69,.v (Ah S4 zK zL))
theorem Agd:∀i j,S4 i=S4 j→i=j:=by
 rintro ⟨hn₁,ls₁,link₁,tick₁⟩ ⟨hn₂,ls₂,link₂,tick₂⟩ h
 simp only[S4,List.cons.injEq,and_true,PV.lits.injEq,PV.int.injEq,PV.agg.injEq,true_and,AG]at h
 simp [h] <;> omega
theorem kC (hn:Int) (ls:List Lnk) (link:Int) (tick:Int):Ah S4 zK zL [.agg [I hn,Az ls],I link,I tick]=@ite (Option (PV)) (0≤link∧link<(ls.length:Int)∧0≤tick) (Classical.propDecidable _) (some (I (CY ls link tick))) none:=B9 Agd (hn,ls,link,tick)
def zM:Prop:=∀(hn:Int) (ls:List Lnk) (link:Int) (tick:Int) (h:0≤link∧link<(ls.length:Int)∧0≤tick) ,VC Try.prog 69 [.agg [I hn,Az ls],I link,I tick] (I (CY ls link tick))
def zN:Prop:=AN Try.prog e_cap.1 e_cap.2
theorem Age (c:zM):zN:=At fun⟨hn,ls,link,tick⟩ h=>c hn ls link tick h
theorem Agf:zM:=by
 rintro hn ls link tick ⟨h0,h1,h2⟩
 refine A5 AR (l := []) (As) [] []  Try.func69 rfl (by decide +kernel) (N:=16) rfl (by simp) rfl (by kernel_rfl) fun hs=>?_
 simp only[AI,PV.small,List.length_map,and_true,true_and]at hs
 unfold CY
 have h3:=My h2
 have h4:tick.toNat % 24<24:=Nat.mod_lt _ (by omega)
 have h4i:((tick.toNat % 24:Nat):Int)<24:=by omega
 generalize tick.toNat % 24=h at *
 have h5:=DH h0 h1
 have h6:=Int.toNat_of_nonneg h0
 generalize link.toNat=k at *
 generalize hr:DL (ls.getD k dL) h=r
 subst h6
 simp +contextual (maxSteps:=4000000) only[↓bdD,bdP,Nat.reduceLT,Nat.reduceBEq,Ag,Nat.reduceAdd,Int.reduceEq,st0,↓reduceIte,Bs,CD,Nat.mul_one,Try.f69,ty3,BE,Au,Ii,Ck,h0,h1,h3,h4,h4i,h5,hr]
theorem zO:zN:=Age Agf
noncomputable def Mz:(Int)×(List Lnk)×(Int)×(Int)→List PV:=fun (hn,ls,link,tick) => [.agg [I hn,Az ls],I link,I tick]
noncomputable def kE:(Int)×(List Lnk)×(Int)×(Int)→PV:=fun (hn,ls,link,tick)=>I (CY ls link tick)
def kF:(Int)×(List Lnk)×(Int)×(Int)→Prop:=fun (hn,ls,link,tick)=>0≤link∧link<(ls.length:Int)∧0≤tick
noncomputable def e_rcap:Nat×Ent:=(48,.v (Ah Mz kE kF))
theorem Abz:∀i j,Mz i=Mz j→i=j:=by
 rintro ⟨hn₁,ls₁,link₁,tick₁⟩ ⟨hn₂,ls₂,link₂,tick₂⟩ h
 simp only[Mz,List.cons.injEq,and_true,PV.lits.injEq,PV.int.injEq,PV.agg.injEq,true_and,AG]at h
 simp [h] <;> omega
theorem kG (hn:Int) (ls:List Lnk) (link:Int) (tick:Int):Ah Mz kE kF [.agg [I hn,Az ls],I link,I tick]=@ite (Option (PV)) (0≤link∧link<(ls.length:Int)∧0≤tick) (Classical.propDecidable _) (some (I (CY ls link tick))) none:=B9 Abz (hn,ls,link,tick)
def kH:Prop:=∀(hn:Int) (ls:List Lnk) (link:Int) (tick:Int) (h:0≤link∧link<(ls.length:Int)∧0≤tick) ,VC Try.prog 48 [.agg [I hn,Az ls],I link,I tick] (I (CY ls link tick))
def kJ:Prop:=AN Try.prog e_rcap.1 e_rcap.2
theorem Ab0 (c:kH):kJ:=At fun⟨hn,ls,link,tick⟩ h=>c hn ls link tick h
theorem Ab1:kH:=by
 rintro hn ls link tick ⟨h0,h1,h2⟩
 refine A5 AR (l := []) (As) [] []  Try.func48 rfl (by decide +kernel) (N:=16) rfl (by simp) rfl (by kernel_rfl) fun hs=>?_
 simp only[AI,PV.small,List.length_map,and_true,true_and]at hs
 unfold CY
 have h3:=My h2
 have h4:tick.toNat % 24<24:=Nat.mod_lt _ (by omega)
 have h4i:((tick.toNat % 24:Nat):Int)<24:=by omega
 generalize tick.toNat % 24=h at *
 have h5:=DH h0 h1
 have h6:=Int.toNat_of_nonneg h0
 generalize link.toNat=k at *
 generalize hr:DL (ls.getD k dL) h=r
 subst h6
 simp +contextual (maxSteps:=4000000) only[↓bdD,bdP,Nat.reduceLT,Nat.reduceBEq,Ag,Nat.reduceAdd,Int.reduceEq,st0,↓reduceIte,Bs,CD,Nat.mul_one,Try.f48,ty3,BE,Au,Ii,Ck,h0,h1,h3,h4,h4i,h5,hr]
theorem Ab2:kJ:=Ab0 Ab1
def ftT (ls:List Lnk) (l:List Snd):Nat→Bool
 | 0=>false
 | k+1=>ftT ls l k||decide (CY ls (l.getD k dS).1 (l.getD k dS).2.1<(l.getD k dS).2.2)
def BA (hn:Int) (ls:List Lnk) (l:List Snd):Int:=if AQ hn ls l≠0 then AQ hn ls l else if ftT ls l l.length=true then 13 else 0
theorem WW {ls:List Lnk} {l:List Snd} {k m:Nat} (h:ftT ls l k=true) (hk:k≤m):ftT ls l m=true:=by
 induction m with
 | zero=>rwa [show k=0 by omega]at h
 | succ m ih =>
  by_cases e:k=m+1
  ·rwa [←e]
  ·simp only[ftT,ih (by omega),Bool.true_or]
noncomputable def MA:(Int)×(List Lnk)×(List Snd)→List PV:=fun (hn,ls,l) => [.agg [I hn,Az ls],AB l]
noncomputable def kK:(Int)×(List Lnk)×(List Snd)→PV:=fun (hn,ls,l)=>I (BA hn ls l)
def kL:(Int)×(List Lnk)×(List Snd)→Prop:=fun (hn,ls,l)=>True
noncomputable def e_fits:Nat×Ent:=(54,.v (Ah MA kK kL))
theorem Ab3:∀i j,MA i=MA j→i=j:=by
 rintro ⟨hn₁,ls₁,l₁⟩ ⟨hn₂,ls₂,l₂⟩ h
 simp only[MA,List.cons.injEq,and_true,PV.lits.injEq,PV.int.injEq,PV.agg.injEq,true_and,AU,AG]at h
 simp [h] <;> omega
theorem KD (hn:Int) (ls:List Lnk) (l:List Snd):Ah MA kK kL [.agg [I hn,Az ls],AB l]=some (I (BA hn ls l)):=Ay Ab3 (i:=(hn,ls,l)) trivial
def kM:Prop:=∀(hn:Int) (ls:List Lnk) (l:List Snd) ,VC Try.prog 54 [.agg [I hn,Az ls],AB l] (I (BA hn ls l))
def kN:Prop:=AN Try.prog e_fits.1 e_fits.2
theorem Ab4 (c:kM):kN:=At fun⟨hn,ls,l⟩ h=>c hn ls l
theorem Ab5:kM:=by
 intro hn ls l
 refine A5 AR (l := [e_right,e_cap]) ((Ae JQ (Ae zO As))) [27] []  Try.func54 rfl (by decide +kernel) (N:=30) rfl (by simp) rfl (by kernel_rfl) fun hs=>?_
 simp only[AI,PV.small,List.length_map,and_true,true_and]at hs
 by_cases h:AQ hn ls l=0
 case neg =>
  rw [show BA hn ls l=AQ hn ls l by simp[BA,h]]
  generalize hr:AQ hn ls l=r at *
  simp +contextual (maxSteps:=4000000) only[↓bdD,bdP,Nat.reduceLT,Nat.reduceBEq,Ag,Nat.reduceAdd,st0,↓reduceIte,e_right,BP,e_cap,Ac,Ab,Try.f54,Au,AF,h,hr]
 have ok:=right_zero.1 h
 have hlen:=ok.len
 rw [show BA hn ls l=if ftT ls l l.length=true then 13 else 0 by simp[BA,h]]
 generalize hr:(if ftT ls l l.length=true then (13:Int)else 0)=r
 simp +contextual (maxSteps:=4000000) only[↓bdD,bdP,Nat.reduceLT,Nat.reduceBEq,Nat.reduceAdd,st0,↓reduceIte,e_right,BP,e_cap,Ac,Ab,Try.f54,Au,AF,h]
 refine AA [4,7,16,17,18,19,20,21,22,23,24,25,26,27,28,29] l.length (fun k ρ st'=>ρ 16=I k∧ftT ls l k=false) (.refl _) ?_ ?_
 ·simp +contextual (maxSteps:=4000000) only[↓bdD,bdP,ftT]
 ·rintro k ρ ⟨ob,M⟩ hk ⟨h16,hz⟩
  by_cases hlt:k<l.length
  ·have hw1:IntKind.i64.wrap ((k:Int)+1)=((k+1:Nat):Int):=by rw[Aj (by omega) (by omega)];omega
   have e1:=ok.link k hlt
   have e2:=(ok.tick k hlt).1
   have hs:ftT ls l (k+1)=decide (CY ls (l.getD k dS).1 (l.getD k dS).2.1<(l.getD k dS).2.2):=by simp only[ftT,hz,Bool.false_or]
   generalize hx:l.getD k dS=x at *
   by_cases hb:CY ls x.1 x.2.1<x.2.2
   ·rw [decide_eq_true hb]at hs
    rw [if_pos (WW hs (by omega))]at hr
    subst hr
    simp +contextual (maxSteps:=4000000) only[↓bdD,bdP,Nat.reduceLT,Nat.reduceBEq,Ag,Nat.reduceEqDiff,Nat.reduceAdd,Store.new,Store.set,↓reduceIte,kC,AJ,Ab,ty3,Au,AF,BZ,h16,hlt,hx,e1,e2,hb]
   ·rw [decide_eq_false hb]at hs
    simp +contextual (maxSteps:=4000000) only[↓bdD,bdP,Nat.reduceLT,Nat.reduceBEq,Nat.reduceEqDiff,Nat.reduceAdd,Store.new,Store.set,↓reduceIte,kC,AJ,Ab,ty3,Au,AF,BZ,h16,hlt,hx,e1,e2,hb,hs,hw1]
  ·have e:k=l.length:=by omega
   subst e
   rw [hz,if_neg (by simp)]at hr
   subst hr
   simp +contextual (maxSteps:=4000000) only[↓bdD,bdP,Nat.reduceLT,Nat.reduceBEq,Ag,↓reduceIte,h16]
theorem kO:kN:=Ab4 Ab5
noncomputable def JR:(Int)×(List Lnk)×(List Snd)→List PV:=fun (hn,ls,l) => [.agg [I hn,Az ls],AB l]
noncomputable def WX:(Int)×(List Lnk)×(List Snd)→PV:=fun (hn,ls,l)=>I (BA hn ls l)
def WY:(Int)×(List Lnk)×(List Snd)→Prop:=fun (hn,ls,l)=>True
noncomputable def e_rfits:Nat×Ent:=(56,.v (Ah JR WX WY))
theorem vV:∀i j,JR i=JR j→i=j:=by
 rintro ⟨hn₁,ls₁,l₁⟩ ⟨hn₂,ls₂,l₂⟩ h
 simp only[JR,List.cons.injEq,and_true,PV.lits.injEq,PV.int.injEq,PV.agg.injEq,true_and,AU,AG]at h
 simp [h] <;> omega
theorem Lz (hn:Int) (ls:List Lnk) (l:List Snd):Ah JR WX WY [.agg [I hn,Az ls],AB l]=some (I (BA hn ls l)):=Ay vV (i:=(hn,ls,l)) trivial
def WZ:Prop:=∀(hn:Int) (ls:List Lnk) (l:List Snd) ,VC Try.prog 56 [.agg [I hn,Az ls],AB l] (I (BA hn ls l))
def W0:Prop:=AN Try.prog e_rfits.1 e_rfits.2
theorem vW (c:WZ):W0:=At fun⟨hn,ls,l⟩ h=>c hn ls l
theorem vX:WZ:=by
 intro hn ls l
 refine A5 AR (l := [e_rright,e_rcap]) ((Ae S0 (Ae Ab2 As))) [35] []  Try.func56 rfl (by decide +kernel) (N:=37) rfl (by simp) rfl (by kernel_rfl) fun hs=>?_
 simp only[AI,PV.small,List.length_map,and_true,true_and]at hs
 by_cases h:AQ hn ls l=0
 case neg =>
  rw [show BA hn ls l=AQ hn ls l by simp[BA,h]]
  generalize hr:AQ hn ls l=r at *
  simp +contextual (maxSteps:=4000000) only[↓bdD,bdP,Nat.reduceLT,Nat.reduceBEq,Ag,Nat.reduceAdd,st0,↓reduceIte,e_rright,EW,e_rcap,Ac,Ab,Try.f56,Au,AF,h,hr]
 have ok:=right_zero.1 h
 have hlen:=ok.len
 rw [show BA hn ls l=if ftT ls l l.length=true then 13 else 0 by simp[BA,h]]
 generalize hr:(if ftT ls l l.length=true then (13:Int)else 0)=r
 simp +contextual (maxSteps:=4000000) only[↓bdD,bdP,Nat.reduceLT,Nat.reduceBEq,Nat.reduceAdd,st0,↓reduceIte,e_rright,EW,e_rcap,Ac,Ab,Try.f56,Au,AF,h]
 refine AA [4,6,13,14,15,16,17,18,19,20,21,22,23,24,25,26,27,28,29,30,31,32,33,34,35,36] l.length (fun k ρ st'=>ρ 6=I k∧ftT ls l k=false) (.refl _) ?_ ?_
 ·simp +contextual (maxSteps:=4000000) only[↓bdD,bdP,ftT]
 ·rintro k ρ ⟨ob,M⟩ hk ⟨h6,hz⟩
  by_cases hlt:k<l.length
  ·have hw1:IntKind.i64.wrap ((k:Int)+1)=((k+1:Nat):Int):=by rw[Aj (by omega) (by omega)];omega
   have e1:=ok.link k hlt
   have e2:=(ok.tick k hlt).1
   have hs:ftT ls l (k+1)=decide (CY ls (l.getD k dS).1 (l.getD k dS).2.1<(l.getD k dS).2.2):=by simp only[ftT,hz,Bool.false_or]
   generalize hx:l.getD k dS=x at *
   by_cases hb:CY ls x.1 x.2.1<x.2.2
   ·rw [decide_eq_true hb]at hs
    rw [if_pos (WW hs (by omega))]at hr
    subst hr
    simp +contextual (maxSteps:=4000000) only[↓bdD,bdP,Nat.reduceLT,Nat.reduceBEq,Ag,Nat.reduceEqDiff,Nat.reduceAdd,↓reduceIte,kG,AJ,Ab,ty3,Au,AF,BZ,h6,hlt,hx,e1,e2,hb]
   ·rw [decide_eq_false hb]at hs
    simp +contextual (maxSteps:=4000000) only[↓bdD,bdP,Nat.reduceLT,Nat.reduceBEq,Nat.reduceEqDiff,Nat.reduceAdd,↓reduceIte,kG,AJ,Ab,ty3,Au,AF,BZ,h6,hlt,hx,e1,e2,hb,hs,hw1]
  ·have e:k=l.length:=by omega
   subst e
   rw [hz,if_neg (by simp)]at hr
   subst hr
   simp +contextual (maxSteps:=4000000) only[↓bdD,bdP,Nat.reduceLT,Nat.reduceBEq,Ag,Nat.reduceAdd,↓reduceIte,AF,h6]
theorem vY:W0:=vW vX
end Sim
namespace Sim
open Go Go.Proofs
attribute [local congr] An Ao Al AC Aq Ap Av
theorem JS {hn:Int} {ls:List Lnk} (h:OKn hn ls) {link tick:Int} (h0:0≤link) (h1:link<(ls.length:Int)):0≤Fd ls link tick∧Fd ls link tick≤1000000:=by
 have := h.hours link.toNat (tick.toNat % 24) (DH h0 h1) (Nat.mod_lt _ (by omega))
 exact ⟨this.2.2.1,this.2.2.2⟩
theorem Fr {hn:Int} {ls:List Lnk} (h:OKn hn ls) {link tick:Int} (h0:0≤link) (h1:link<(ls.length:Int)):0≤CY ls link tick∧CY ls link tick≤1073741824:=by
 have := h.hours link.toNat (tick.toNat % 24) (DH h0 h1) (Nat.mod_lt _ (by omega))
 exact ⟨this.1,this.2.1⟩
def Fs (ls:List Lnk) (l:List Snd):Nat→Int
 | 0=>0
 | k+1=>Fs ls l k+(l.getD k dS).2.2*Fd ls (l.getD k dS).1 (l.getD k dS).2.1
def FQ (hn:Int) (ls:List Lnk) (l:List Snd):Int:=if AQ hn ls l≠0 then 0 else Fs ls l l.length
theorem On {a b A B:Int} (h0:0≤a) (h1:a≤A) (h2:0≤b) (h3:b≤B):0≤a*b∧a*b≤A*B :=
 ⟨Int.mul_nonneg h0 h2,Int.mul_le_mul h1 h3 h2 (by omega)⟩
theorem S5 {hn:Int} {ls:List Lnk} {l:List Snd} (ok:OKr hn ls l):∀k:Nat,k≤l.length→0≤Fs ls l k∧Fs ls l k≤1073741824000000*(k:Int)
 | 0,_=>⟨Int.le_refl _,by simp[Fs]⟩
 | k+1,h=>by
  have ih:=S5 ok k (by omega)
  have h1:=ok.link k (by omega)
  have h2:=ok.bytes k (by omega)
  have h3:=JS ok.net h1.1 h1.2 (tick:=(l.getD k dS).2.1)
  have h4:=On (by omega) h2.2 h3.1 h3.2
  simp only[Fs]
  omega
theorem vZ {hn:Int} {ls:List Lnk} {l:List Snd} (ok:OKr hn ls l) {k:Nat} (h:k<l.length):IntKind.i64.wrap ((l.getD k dS).2.2*Fd ls (l.getD k dS).1 (l.getD k dS).2.1)=(l.getD k dS).2.2*Fd ls (l.getD k dS).1 (l.getD k dS).2.1 ∧
  IntKind.i64.wrap (Fs ls l k+(l.getD k dS).2.2*Fd ls (l.getD k dS).1 (l.getD k dS).2.1)=Fs ls l (k+1):=by
 have h0:=ok.len
 have h1:=ok.link k h
 have h2:=ok.bytes k h
 have h3:=JS ok.net h1.1 h1.2 (tick:=(l.getD k dS).2.1)
 have h4:=On (by omega) h2.2 h3.1 h3.2
 have h5:=S5 ok k (by omega)
 exact ⟨Aj (by omega) (by omega),Aj (by omega) (by omega)⟩
noncomputable def MC:(Int)×(List Lnk)×(List Snd)→List PV:=fun (hn,ls,l) => [.agg [I hn,Az ls],AB l]
noncomputable def kP:(Int)×(List Lnk)×(List Snd)→PV:=fun (hn,ls,l)=>.tuple [I (FQ hn ls l),I (AQ hn ls l)]
def kQ:(Int)×(List Lnk)×(List Snd)→Prop:=fun (hn,ls,l)=>True
noncomputable def e_cost:Nat×Ent:=(25,.v (Ah MC kP kQ))
theorem Ab6:∀i j,MC i=MC j→i=j:=by
 rintro ⟨hn₁,ls₁,l₁⟩ ⟨hn₂,ls₂,l₂⟩ h
 simp only[MC,List.cons.injEq,and_true,PV.lits.injEq,PV.int.injEq,PV.agg.injEq,true_and,AU,AG]at h
 simp [h] <;> omega
theorem Ab7 (hn:Int) (ls:List Lnk) (l:List Snd):Ah MC kP kQ [.agg [I hn,Az ls],AB l]=some (.tuple [I (FQ hn ls l),I (AQ hn ls l)]):=Ay Ab6 (i:=(hn,ls,l)) trivial
def kR:Prop:=∀(hn:Int) (ls:List Lnk) (l:List Snd) ,VC Try.prog 25 [.agg [I hn,Az ls],AB l] (.tuple [I (FQ hn ls l),I (AQ hn ls l)])
def kT:Prop:=AN Try.prog e_cost.1 e_cost.2
theorem Ab8 (c:kR):kT:=At fun⟨hn,ls,l⟩ h=>c hn ls l
theorem Ab9:kR:=by
 intro hn ls l
 refine A5 AR (l := [e_right]) ((Ae JQ As)) [] []  Try.func25 rfl (by decide +kernel) (N:=40) rfl (by simp) rfl (by kernel_rfl) fun hs=>?_
 simp only[AI,PV.small,List.length_map,and_true,true_and]at hs
 by_cases h:AQ hn ls l=0
 case neg =>
  rw [show FQ hn ls l=0 by simp[FQ,h]]
  generalize hr:AQ hn ls l=r at *
  simp +contextual (maxSteps:=4000000) only[↓bdD,bdP,Nat.reduceLT,Nat.reduceBEq,Ag,Nat.reduceAdd,st0,↓reduceIte,e_right,BP,Ac,Ab,Try.f25,Au,AF,h,hr]
 have ok:=right_zero.1 h
 have hlen:=ok.len
 rw [show FQ hn ls l=Fs ls l l.length by simp[FQ,h],h]
 generalize hr:Fs ls l l.length=r
 simp +contextual (maxSteps:=4000000) only[↓bdD,bdP,Nat.reduceLT,Nat.reduceBEq,Nat.reduceAdd,st0,↓reduceIte,e_right,BP,Ac,Ab,Try.f25,Au,AF,h]
 refine AA [7,9,18,19,20,21,22,23,24,25,26,27,28,29,30,31,32,33,34,35,36,37,38] l.length (fun k ρ st'=>ρ 18=I k∧ρ 7=I (Fs ls l k)) (.refl _) ?_ ?_
 ·simp +contextual (maxSteps:=4000000) only[↓bdD,bdP,Nat.reduceBEq,Fs]
 ·rintro k ρ ⟨ob,M⟩ hk ⟨h18,h7⟩
  by_cases hlt:k<l.length
  ·have hw1:IntKind.i64.wrap ((k:Int)+1)=((k+1:Nat):Int):=by rw[Aj (by omega) (by omega)];omega
   have e1:=ok.link k hlt
   have e2:=(ok.tick k hlt).1
   have hw:=vZ ok hlt
   generalize hx:l.getD k dS=x at *
   have h3:=My e2
   have h4:x.2.1.toNat % 24<24:=Nat.mod_lt _ (by omega)
   have h4i:((x.2.1.toNat % 24:Nat):Int)<24:=by omega
   unfold Fd at hw
   generalize x.2.1.toNat % 24=hh at *
   have h5:=DH e1.1 e1.2
   have h6:=Int.toNat_of_nonneg e1.1
   generalize x.1.toNat=kk at *
   simp +contextual (maxSteps:=4000000) only[↓bdD,bdP,Nat.reduceLT,Nat.reduceBEq,Nat.reduceAdd,Int.reduceEq,Store.new,Store.set,↓reduceIte,AJ,Bs,Ee,Nat.mul_one,ty3,BE,Au,AF,Ii,Ck,BZ,h18,h7,hlt,hx,h3,h4,h4i,h5,←h6,hw,hw1]
  ·have e:k=l.length:=by omega
   subst e
   rw [hr]at h7
   simp +contextual (maxSteps:=4000000) only[↓bdD,bdP,Nat.reduceLT,Nat.reduceBEq,Ag,↓reduceIte,h18,h7]
theorem Aca:kT:=Ab8 Ab9
def Bx (l:List Snd) (link tick:Int):Nat→Int
 | 0=>0
 | k+1=>Bx l link tick k+if (l.getD k dS).1=link∧(l.getD k dS).2.1=tick then (l.getD k dS).2.2 else 0
def D0 (hn:Int) (ls:List Lnk) (l:List Snd) (link tick:Int):Int×Int :=
 if AQ hn ls l≠0 then (0,AQ hn ls l)else if link<0∨(ls.length:Int)≤link∨tick<0∨1000000≤tick then (0,1)else (CY ls link tick-Bx l link tick l.length,0)
def smB (l:List Snd):Prop:=l.length≤2000∧∀k,k<l.length→1≤(l.getD k dS).2.2∧(l.getD k dS).2.2≤1073741824
theorem S6 {l:List Snd} (h:smB l) (link tick:Int):∀k:Nat,k≤l.length→0≤Bx l link tick k∧Bx l link tick k≤1073741824*(k:Int)
 | 0,_=>⟨Int.le_refl _,by simp[Bx]⟩
 | k+1,hk=>by
  have ih:=S6 h link tick k (by omega)
  have h2:=h.2 k (by omega)
  simp only[Bx]
  split <;> omega
theorem OKr.smB {hn:Int} {ls:List Lnk} {l:List Snd} (h:OKr hn ls l):smB l:=⟨h.len,h.bytes⟩
noncomputable def MD:(Int)×(List Lnk)×(List Snd)×(Int)×(Int)→List PV:=fun (hn,ls,l,link,tick) => [.agg [I hn,Az ls],AB l,I link,I tick]
noncomputable def kU:(Int)×(List Lnk)×(List Snd)×(Int)×(Int)→PV:=fun (hn,ls,l,link,tick)=>.tuple [I (D0 hn ls l link tick).1,I (D0 hn ls l link tick).2]
def kV:(Int)×(List Lnk)×(List Snd)×(Int)×(Int)→Prop:=fun (hn,ls,l,link,tick)=>True
noncomputable def e_left:Nat×Ent:=(61,.v (Ah MD kU kV))
theorem Acb:∀i j,MD i=MD j→i=j:=by
 rintro ⟨hn₁,ls₁,l₁,link₁,tick₁⟩ ⟨hn₂,ls₂,l₂,link₂,tick₂⟩ h
 simp only[MD,List.cons.injEq,and_true,PV.lits.injEq,PV.int.injEq,PV.agg.injEq,true_and,AU,AG]at h
 simp [h] <;> omega
theorem Acc (hn:Int) (ls:List Lnk) (l:List Snd) (link:Int) (tick:Int):Ah MD kU kV [.agg [I hn,Az ls],AB l,I link,I tick]=some (.tuple [I (D0 hn ls l link tick).1,I (D0 hn ls l link tick).2]):=Ay Acb (i:=(hn,ls,l,link,tick)) trivial
def kW:Prop:=∀(hn:Int) (ls:List Lnk) (l:List Snd) (link:Int) (tick:Int) ,VC Try.prog 61 [.agg [I hn,Az ls],AB l,I link,I tick] (.tuple [I (D0 hn ls l link tick).1,I (D0 hn ls l link tick).2])
def kX:Prop:=AN Try.prog e_left.1 e_left.2
theorem Acd (c:kW):kX:=At fun⟨hn,ls,l,link,tick⟩ h=>c hn ls l link tick
theorem Ace:kW:=by
 intro hn ls l link tick
 refine A5 AR (l := [e_right,e_cap]) ((Ae JQ (Ae zO As))) [] []  Try.func61 rfl (by decide +kernel) (N:=63) rfl (by simp) rfl (by kernel_rfl) fun hs=>?_
 simp only[AI,PV.small,List.length_map,and_true,true_and]at hs
 by_cases h:AQ hn ls l=0
 case neg =>
  rw [show D0 hn ls l link tick=(0,AQ hn ls l) by simp[D0,h]]
  generalize hr:AQ hn ls l=r at *
  simp +contextual (maxSteps:=4000000) only[↓bdD,bdP,Nat.reduceLT,Nat.reduceBEq,Ag,Nat.reduceAdd,st0,↓reduceIte,e_right,BP,e_cap,Ac,Ab,Try.f61,Au,AF,h,hr]
 have ok:=right_zero.1 h
 have hlen:=ok.len
 by_cases hb:link<0∨(ls.length:Int)≤link∨tick<0∨1000000≤tick
 ·rw [show D0 hn ls l link tick=(0,1) by simp only[D0,h,ne_eq,not_true_eq_false,if_false];rw[if_pos hb]]
  have e:link<0∨(¬link<0∧(ls.length:Int)≤link)∨(¬link<0∧¬(ls.length:Int)≤link∧tick<0)∨(¬link<0∧¬(ls.length:Int)≤link∧¬tick<0∧1000000≤tick):=by omega
  rcases e with e | e | e | e
  ·simp +contextual (maxSteps:=4000000) only[↓bdD,bdP,Nat.reduceLT,Nat.reduceBEq,Ag,Nat.reduceAdd,st0,↓reduceIte,e_right,BP,e_cap,Ac,Ab,Try.f61,Au,AF,h,e]
  ·simp +contextual (maxSteps:=4000000) only[↓bdD,bdP,Nat.reduceLT,Nat.reduceBEq,Ag,Nat.reduceAdd,st0,↓reduceIte,e_right,BP,e_cap,Ac,Ab,Try.f61,BE,Au,AF,h,e]
  ·simp +contextual (maxSteps:=4000000) only[↓bdD,bdP,Nat.reduceLT,Nat.reduceBEq,Ag,Nat.reduceAdd,st0,↓reduceIte,e_right,BP,e_cap,Ac,Ab,Try.f61,BE,Au,AF,h,e]
  ·simp +contextual (maxSteps:=4000000) only[↓bdD,bdP,Nat.reduceLT,Nat.reduceBEq,Ag,Nat.reduceAdd,st0,↓reduceIte,e_right,BP,e_cap,Ac,Ab,Try.f61,BE,Au,AF,h,e]
 rw [show D0 hn ls l link tick=(CY ls link tick-Bx l link tick l.length,0) by simp only[D0,h,ne_eq,not_true_eq_false,if_false];rw[if_neg hb]]
 have e:¬link<0∧¬(ls.length:Int)≤link∧¬tick<0∧¬1000000≤tick∧0≤link∧link<(ls.length:Int)∧0≤tick:=by omega
 have hcap:=Fr ok.net e.2.2.2.2.1 e.2.2.2.2.2.1 (tick:=tick)
 have hb:=ok.smB
 generalize hr:CY ls link tick-Bx l link tick l.length=r
 simp +contextual (maxSteps:=4000000) only[↓bdD,bdP,Nat.reduceLT,Nat.reduceBEq,Nat.reduceEqDiff,Nat.reduceAdd,st0,↓reduceIte,e_right,BP,e_cap,kC,Ac,Ab,Try.f61,ty3,BE,Au,AF,h,e]
 refine AA [11,13,43,44,45,46,47,48,49,50,51,52,53,54,55,56,57,58,59,60,61] l.length (fun k ρ st'=>ρ 43=I k∧ρ 11=I (CY ls link tick-Bx l link tick k)) (.refl _) ?_ ?_
 ·simp +contextual (maxSteps:=4000000) only[↓bdD,bdP,Nat.reduceBEq,Bx,Int.sub_zero]
 ·rintro k ρ ⟨ob,M⟩ hk ⟨h43,h11⟩
  by_cases hlt:k<l.length
  ·have hw1:IntKind.i64.wrap ((k:Int)+1)=((k+1:Nat):Int):=by rw[Aj (by omega) (by omega)];omega
   have hs:=S6 hb link tick k hk
   have hbk:=hb.2 k hlt
   have hstep:Bx l link tick (k+1)=Bx l link tick k+if (l.getD k dS).1=link∧(l.getD k dS).2.1=tick then (l.getD k dS).2.2 else 0:=rfl
   generalize hx:l.getD k dS=x at *
   by_cases e1:x.1=link
   ·by_cases e2:x.2.1=tick
    ·rw [if_pos ⟨e1,e2⟩]at hstep
     have hw2:IntKind.i64.wrap (CY ls link tick-Bx l link tick k-x.2.2)=CY ls link tick-Bx l link tick (k+1):=by rw[hstep,Aj (by omega) (by omega)];omega
     simp +contextual (maxSteps:=4000000) only[↓bdD,bdP,Nat.reduceLT,Nat.reduceBEq,Nat.reduceAdd,Store.new,Store.set,↓reduceIte,AJ,ty3,AF,BZ,h43,h11,hlt,hx,e1,e2,hw1,hw2]
    ·rw [if_neg (fun h=>e2 h.2),Int.add_zero]at hstep
     simp +contextual (maxSteps:=4000000) only[↓bdD,bdP,Nat.reduceLT,Nat.reduceBEq,Nat.reduceAdd,Store.new,Store.set,↓reduceIte,AJ,ty3,AF,BZ,h43,h11,hlt,hx,e1,e2,hw1,hstep]
   ·rw [if_neg (fun h=>e1 h.1),Int.add_zero]at hstep
    simp +contextual (maxSteps:=4000000) only[↓bdD,bdP,Nat.reduceLT,Nat.reduceBEq,Nat.reduceAdd,Store.new,Store.set,↓reduceIte,AJ,ty3,AF,BZ,h43,h11,hlt,hx,e1,hw1,hstep]
  ·have e:k=l.length:=by omega
   subst e
   rw [hr]at h11
   simp +contextual (maxSteps:=4000000) only[↓bdD,bdP,Nat.reduceLT,Nat.reduceBEq,Ag,↓reduceIte,h43,h11]
theorem Acf:kX:=Acd Ace
end Sim
