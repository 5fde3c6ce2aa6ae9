/- What functions of this seat compute, by values: contracts (lemmas of the statement's proof, under the conditions that each names). -/
import Derived.Test.YtppljhpecoeakaaQN1
set_option maxRecDepth 10000
set_option maxHeartbeats 2000000
set_option linter.unusedVariables false
set_option linter.unusedSimpArgs false
namespace Sim
open Go Go.Proofs
attribute [local congr] Am An Ai Aw Ap Ao As
def Ze (ls:List Lnk) (l:List Snd) (k:Nat):Int :=
 if (l.getD k dS).1<0∨(ls.length:Int)≤(l.getD k dS).1 then 1
 else if (l.getD k dS).2.1<0∨1000000≤(l.getD k dS).2.1∨(l.getD k dS).2.2<1∨1073741824<(l.getD k dS).2.2 then 3
 else if 0<k∧((l.getD k dS).2.1<(l.getD (k-1) dS).2.1∨((l.getD k dS).2.1=(l.getD (k-1) dS).2.1∧(l.getD k dS).1≤(l.getD (k-1) dS).1))then 1 else 0
def rgT (ls:List Lnk) (l:List Snd):Nat→Int
 | 0=>0
 | k+1=>if rgT ls l k≠0 then rgT ls l k else Ze ls l k
def A6 (hn:Int) (ls:List Lnk) (l:List Snd):Int:=if Ek hn ls≠0 then Ek hn ls else if 2000<l.length then 2 else rgT ls l l.length
theorem N3 {ls:List Lnk} {l:List Snd} {k:Nat} (h:rgT ls l k≠0):∀m,rgT ls l (k+m)=rgT ls l k
 | 0=>rfl
 | m+1=>by
  have ih:=N3 h m
  show (if rgT ls l (k+m)≠0 then rgT ls l (k+m)else _)=_
  rw [ih,if_pos h]
theorem PK {ls:List Lnk} {l:List Snd} {k m:Nat} (h:rgT ls l k≠0) (hk:k≤m):rgT ls l m=rgT ls l k:=by
 have := N3 h (m-k)
 rwa [show k+(m-k)=m by omega]at this
noncomputable def Jx:(Int)×(List Lnk)×(List Snd)→List PV:=fun (hn,ls,l) => [.agg [I hn,AC ls],AA l]
noncomputable def V7:(Int)×(List Lnk)×(List Snd)→PV:=fun (hn,ls,l)=>I (A6 hn ls l)
def V8:(Int)×(List Lnk)×(List Snd)→Prop:=fun (hn,ls,l)=>True
noncomputable def e_right:Nat×Ent:=(46,.v (Al Jx V7 V8))
theorem sK:∀i j,Jx i=Jx j→i=j:=by
 rintro ⟨hn₁,ls₁,l₁⟩ ⟨hn₂,ls₂,l₂⟩ h
 simp only[Jx,List.cons.injEq,and_true,PV.lits.injEq,PV.int.injEq,PV.agg.injEq,true_and,AY,AN]at h
 simp [h] <;> omega
theorem BL (hn:Int) (ls:List Lnk) (l:List Snd):Al Jx V7 V8 [.agg [I hn,AC ls],AA l]=some (I (A6 hn ls l)):=AD sK (i:=(hn,ls,l)) trivial
def V9:Prop:=∀(hn:Int) (ls:List Lnk) (l:List Snd) ,VC Try.prog 46 [.agg [I hn,AC ls],AA l] (I (A6 hn ls l))
def Wa:Prop:=AT Try.prog e_right.1 e_right.2
theorem sL (c:V9):Wa:=Ay fun⟨hn,ls,l⟩ h=>c hn ls l
theorem sM:V9:=by
 intro hn ls l
 refine Bk AV (l := [e_check]) ((Ae sJ At)) [] []  Try.func46 rfl (by decide +kernel) (N:=91) rfl (by simp) rfl (by kernel_rfl) fun hs=>?_
 simp only[AJ,PV.small,List.length_map,and_true,true_and]at hs
 by_cases h:Ek hn ls=0
 case neg =>
  rw [show A6 hn ls l=Ek hn ls by simp[A6,h]]
  generalize hr:Ek hn ls=r at *
  simp +contextual (maxSteps:=4000000) only[↓bdD,bdP,Nat.reduceLT,Nat.reduceBEq,Ar,Nat.reduceAdd,st0,↓reduceIte,e_check,PJ,Ab,Try.f46,AH,h,hr]
 have hc:=check_zero.1 h
 have h60:=hc.len
 by_cases hl:2000<l.length
 ·have hli:(2000:Int)<(l.length:Int):=by omega
  rw [show A6 hn ls l=2 by simp[A6,h,hl]]
  simp +contextual (maxSteps:=4000000) only[↓bdD,bdP,Nat.reduceLT,Nat.reduceBEq,Ar,Nat.reduceAdd,st0,↓reduceIte,e_check,PJ,Ab,Try.f46,AH,AR,h,hli]
 have hli:¬(2000:Int)<(l.length:Int):=by omega
 rw [show A6 hn ls l=rgT ls l l.length by simp[A6,h,hl]]
 generalize hr:rgT ls l l.length=r
 simp +contextual (maxSteps:=4000000) only[↓bdD,bdP,Nat.reduceLT,Nat.reduceBEq,Nat.reduceAdd,st0,↓reduceIte,e_check,PJ,Ab,Try.f46,AH,AR,h,hli]
 refine Az [4,6,7,18,19,20,21,22,23,24,25,26,27,28,29,30,31,32,33,34,35,36,37,38,39,40,41,42,43,44,45,46,47,48,49,50,51,52,53,54,55,56,57,58,59,60,61,62,63,64,65,66,67,68,69,70,71,72,73,74,75,76,77,78,79,80,81,82,83,84,85,86,87,88,89,90] l.length (fun k ρ st'=>ρ 18=I k∧rgT ls l k=0) (.refl _) ?_ ?_
 ·simp +contextual (maxSteps:=4000000) only[↓bdD,bdP,rgT]
 ·rintro k ρ ⟨ob,M⟩ hk ⟨h18,hz⟩
  by_cases hlt:k<l.length
  ·have hstep:rgT ls l (k+1)=Ze ls l k:=by simp only[rgT,hz,ne_eq,not_true_eq_false,if_false]
   have hw1:IntKind.i64.wrap ((k:Int)+1)=((k+1:Nat):Int):=by rw[Ah (by omega) (by omega)];omega
   unfold Ze at hstep
   generalize hx:l.getD k dS=x at *
   by_cases e1:x.1<0∨(ls.length:Int)≤x.1
   ·rw [if_pos e1]at hstep
    have hend:=PK (m:=l.length) (by rw[hstep];decide) (show k+1≤l.length by omega)
    rw [hend,hstep]at hr
    subst hr
    have e:x.1<0∨(¬x.1<0∧(ls.length:Int)≤x.1):=by omega
    rcases e with e | e
    ·simp +contextual (maxSteps:=4000000) only[↓bdD,bdP,Nat.reduceLT,Nat.reduceBEq,Ar,Nat.reduceAdd,Store.new,Store.set,↓reduceIte,A3,ty3,AR,CJ,h18,hlt,hx,e]
    ·simp +contextual (maxSteps:=4000000) only[↓bdD,bdP,Nat.reduceLT,Nat.reduceBEq,Ar,Nat.reduceAdd,Store.new,Store.set,↓reduceIte,A3,ty3,Cy,AH,AR,CJ,h18,hlt,hx,e]
   ·rw [if_neg e1]at hstep
    by_cases e2:x.2.1<0∨1000000≤x.2.1∨x.2.2<1∨1073741824<x.2.2
    ·rw [if_pos e2]at hstep
     have hend:=PK (m:=l.length) (by rw[hstep];decide) (show k+1≤l.length by omega)
     rw [hend,hstep]at hr
     subst hr
     have e:(¬x.1<0∧¬(ls.length:Int)≤x.1∧x.2.1<0)∨(¬x.1<0∧¬(ls.length:Int)≤x.1∧¬x.2.1<0∧1000000≤x.2.1)∨(¬x.1<0∧¬(ls.length:Int)≤x.1∧¬x.2.1<0∧¬1000000≤x.2.1∧x.2.2<1)∨(¬x.1<0∧¬(ls.length:Int)≤x.1∧¬x.2.1<0∧¬1000000≤x.2.1∧¬x.2.2<1∧1073741824<x.2.2):=by omega
     rcases e with e | e | e | e
     ·simp +contextual (maxSteps:=4000000) only[↓bdD,bdP,Nat.reduceLT,Nat.reduceBEq,Ar,Nat.reduceAdd,Store.new,Store.set,↓reduceIte,A3,ty3,Cy,AH,AR,CJ,h18,hlt,hx,e]
     ·simp +contextual (maxSteps:=4000000) only[↓bdD,bdP,Nat.reduceLT,Nat.reduceBEq,Ar,Nat.reduceAdd,Store.new,Store.set,↓reduceIte,A3,ty3,Cy,AH,AR,CJ,h18,hlt,hx,e]
     ·simp +contextual (maxSteps:=4000000) only[↓bdD,bdP,Nat.reduceLT,Nat.reduceBEq,Ar,Nat.reduceAdd,Store.new,Store.set,↓reduceIte,A3,ty3,Cy,AH,AR,CJ,h18,hlt,hx,e]
     ·simp +contextual (maxSteps:=4000000) only[↓bdD,bdP,Nat.reduceLT,Nat.reduceBEq,Ar,Nat.reduceAdd,Store.new,Store.set,↓reduceIte,A3,ty3,Cy,AH,AR,CJ,h18,hlt,hx,e]
    ·rw [if_neg e2]at hstep
     have e:¬x.1<0∧¬(ls.length:Int)≤x.1∧¬x.2.1<0∧¬1000000≤x.2.1∧¬x.2.2<1∧¬1073741824<x.2.2:=by omega
     by_cases h0:0<k
     case neg =>
      rw [if_neg (fun g=>h0 g.1)]at hstep
      have h0i:¬(0:Int)<(k:Int):=by omega
      simp +contextual (maxSteps:=4000000) only[↓bdD,bdP,Nat.reduceLT,Nat.reduceBEq,Nat.reduceAdd,Store.new,Store.set,↓reduceIte,A3,ty3,Cy,AH,AR,CJ,h18,hlt,hx,e,h0i,hw1,hstep]
     have h0i:(0:Int)<(k:Int):=by omega
     have hwm:IntKind.i64.wrap ((k:Int)-1)=((k-1:Nat):Int):=by rw[Ah (by omega) (by omega)];omega
     have hltm:k-1<l.length:=by omega
     generalize hy:l.getD (k-1) dS=y at *
     by_cases e3:x.2.1<y.2.1∨(x.2.1=y.2.1∧x.1≤y.1)
     ·rw [if_pos ⟨h0,e3⟩]at hstep
      have hend:=PK (m:=l.length) (by rw[hstep];decide) (show k+1≤l.length by omega)
      rw [hend,hstep]at hr
      subst hr
      have e':x.2.1<y.2.1∨(¬x.2.1<y.2.1∧x.2.1=y.2.1∧x.1≤y.1∧¬y.2.1<0∧¬1000000≤y.2.1∧¬y.2.1<y.2.1):=by omega
      rcases e' with e' | e'
      ·simp +contextual (maxSteps:=4000000) only[↓bdD,bdP,Nat.reduceLT,Nat.reduceBEq,Ar,Nat.reduceAdd,Store.new,Store.set,↓reduceIte,A3,ty3,Cy,AH,AR,CJ,h18,hlt,hx,e,h0i,hwm,hltm,hy,e']
      ·simp +contextual (maxSteps:=4000000) only[↓bdD,bdP,Nat.reduceLT,Nat.reduceBEq,Ar,Nat.reduceAdd,Store.new,Store.set,↓reduceIte,A3,ty3,Cy,AH,AR,CJ,h18,hlt,hx,e,h0i,hwm,hltm,hy,e']
     ·rw [if_neg (fun g=>e3 g.2)]at hstep
      have e':(¬x.2.1<y.2.1∧¬x.2.1=y.2.1∧¬y.2.1=x.2.1)∨(¬x.2.1<y.2.1∧x.2.1=y.2.1∧¬x.1≤y.1∧¬y.2.1<0∧¬1000000≤y.2.1∧¬y.2.1<y.2.1):=by omega
      rcases e' with e' | e'
      ·simp +contextual (maxSteps:=4000000) only[↓bdD,bdP,Nat.reduceLT,Nat.reduceBEq,Nat.reduceAdd,Store.new,Store.set,↓reduceIte,A3,ty3,Cy,AH,AR,CJ,h18,hlt,hx,e,h0i,hwm,hltm,hy,e',hw1,hstep]
      ·simp +contextual (maxSteps:=4000000) only[↓bdD,bdP,Nat.reduceLT,Nat.reduceBEq,Nat.reduceAdd,Store.new,Store.set,↓reduceIte,A3,ty3,Cy,AH,AR,CJ,h18,hlt,hx,e,h0i,hwm,hltm,hy,e',hw1,hstep]
  ·have e:k=l.length:=by omega
   subst e
   rw [hz]at hr
   subst hr
   simp +contextual (maxSteps:=4000000) only[↓bdD,bdP,Nat.reduceLT,Nat.reduceBEq,Ar,↓reduceIte,h18]
theorem Jy:Wa:=sL sM
end Sim
namespace Sim
open Go Go.Proofs
attribute [local congr] Am An Ai Aw Ap Ao As
structure OKr (hn:Int) (ls:List Lnk) (l:List Snd):Prop where
 net : OKn hn ls
 len : l.length≤2000
 link : ∀k,k<l.length→0≤(l.getD k dS).1∧(l.getD k dS).1<(ls.length:Int)
 tick : ∀k,k<l.length→0≤(l.getD k dS).2.1∧(l.getD k dS).2.1<1000000
 bytes : ∀k,k<l.length→1≤(l.getD k dS).2.2∧(l.getD k dS).2.2≤1073741824
 asc : ∀k,0<k→k<l.length→(l.getD (k-1) dS).2.1<(l.getD k dS).2.1∨((l.getD (k-1) dS).2.1=(l.getD k dS).2.1∧(l.getD (k-1) dS).1<(l.getD k dS).1)
theorem Sg {ls:List Lnk} {l:List Snd}:∀ {k},rgT ls l k=0↔∀i,i<k→Ze ls l i=0
 | 0=>⟨fun _ h g=>absurd g (by omega),fun _=>rfl⟩
 | k+1=>by
  have ih:=@Sg ls l k
  simp only[rgT]
  by_cases h:rgT ls l k=0
  ·rw [if_neg (fun hn=>hn h)]
   constructor
   ·intro hb i hi
    by_cases e:i=k
    ·subst e;exact hb
    ·exact ih.1 h i (by omega)
   ·intro g;exact g k (by omega)
  ·rw [if_pos h]
   exact ⟨fun g=>absurd g h,fun g=>absurd (ih.2 fun i hi=>g i (by omega)) h⟩
theorem sndE_zero {ls:List Lnk} {l:List Snd} {k:Nat}:Ze ls l k=0↔(0≤(l.getD k dS).1∧(l.getD k dS).1<(ls.length:Int))∧(0≤(l.getD k dS).2.1∧(l.getD k dS).2.1<1000000)∧(1≤(l.getD k dS).2.2∧(l.getD k dS).2.2≤1073741824)∧(0<k→(l.getD (k-1) dS).2.1<(l.getD k dS).2.1∨((l.getD (k-1) dS).2.1=(l.getD k dS).2.1∧(l.getD (k-1) dS).1<(l.getD k dS).1)):=by
 unfold Ze
 generalize l.getD k dS=x
 generalize l.getD (k-1) dS=y
 split
 ·constructor
  ·intro h;cases h
  ·omega
 ·split
  ·constructor
   ·intro h;cases h
   ·omega
  ·split
   ·constructor
    ·intro h;cases h
    ·omega
   ·constructor
    ·intro; omega
    ·intro; rfl
theorem right_zero {hn:Int} {ls:List Lnk} {l:List Snd}:A6 hn ls l=0↔OKr hn ls l:=by
 unfold A6
 split
 ·rename_i h
  exact ⟨fun g=>absurd g h,fun g=>absurd (check_zero.2 g.net) h⟩
 ·rename_i h
  have h:=check_zero.1 (Classical.not_not.1 h)
  split
  ·exact ⟨fun g=>(by cases g),fun g=>(by have:=g.len;omega)⟩
  ·rw [Sg]
   constructor
   ·intro g
    exact ⟨h,by omega,fun k hk=>(sndE_zero.1 (g k hk)).1,fun k hk=>(sndE_zero.1 (g k hk)).2.1,fun k hk=>(sndE_zero.1 (g k hk)).2.2.1,fun k h0 hk=>(sndE_zero.1 (g k hk)).2.2.2 h0⟩
   ·intro g k hk
    exact sndE_zero.2 ⟨g.link k hk,g.tick k hk,g.bytes k hk,fun h0=>g.asc k h0 hk⟩
def DH (ls:List Lnk) (link tick:Int):Int:=Fl (ls.getD link.toNat dL) (tick.toNat % 24)
def ET (ls:List Lnk) (link tick:Int):Int:=GD (ls.getD link.toNat dL) (tick.toNat % 24)
theorem PN {t:Int} (h:0≤t):Int.tmod t 24=((t.toNat % 24:Nat):Int):=by
 rw [Int.tmod_eq_emod_of_nonneg h];omega
theorem DW {a:Int} {n:Nat} (h0:0≤a) (h:a<(n:Int)):a.toNat<n:=by omega
noncomputable def Sh:(Int)×(List Lnk)×(Int)×(Int)→List PV:=fun (hn,ls,link,tick) => [.agg [I hn,AC ls],I link,I tick]
noncomputable def wC:(Int)×(List Lnk)×(Int)×(Int)→PV:=fun (hn,ls,link,tick)=>I (DH ls link tick)
def wE:(Int)×(List Lnk)×(Int)×(Int)→Prop:=fun (hn,ls,link,tick)=>0≤link∧link<(ls.length:Int)∧0≤tick
noncomputable def e_cap:Nat×Ent:=(69,.v (Al Sh wC wE))
theorem Adv:∀i j,Sh i=Sh j→i=j:=by
 rintro ⟨hn₁,ls₁,link₁,tick₁⟩ ⟨hn₂,ls₂,link₂,tick₂⟩ h
 simp only[Sh,List.cons.injEq,and_true,PV.lits.injEq,PV.int.injEq,PV.agg.injEq,true_and,AN]at h
 simp [h] <;> omega
theorem gB (hn:Int) (ls:List Lnk) (link:Int) (tick:Int):Al Sh wC wE [.agg [I hn,AC ls],I link,I tick]=@ite (Option (PV)) (0≤link∧link<(ls.length:Int)∧0≤tick) (Classical.propDecidable _) (some (I (DH ls link tick))) none:=Cm Adv (hn,ls,link,tick)
def wF:Prop:=∀(hn:Int) (ls:List Lnk) (link:Int) (tick:Int) (h:0≤link∧link<(ls.length:Int)∧0≤tick) ,VC Try.prog 69 [.agg [I hn,AC ls],I link,I tick] (I (DH ls link tick))
def wG:Prop:=AT Try.prog e_cap.1 e_cap.2
theorem Adw (c:wF):wG:=Ay fun⟨hn,ls,link,tick⟩ h=>c hn ls link tick h
theorem Adx:wF:=by
 rintro hn ls link tick ⟨h0,h1,h2⟩
 refine Bk AV (l := []) (At) [] []  Try.func69 rfl (by decide +kernel) (N:=16) rfl (by simp) rfl (by kernel_rfl) fun hs=>?_
 simp only[AJ,PV.small,List.length_map,and_true,true_and]at hs
 unfold DH
 have h3:=PN h2
 have h4:tick.toNat % 24<24:=Nat.mod_lt _ (by omega)
 have h4i:((tick.toNat % 24:Nat):Int)<24:=by omega
 generalize tick.toNat % 24=h at *
 have h5:=DW h0 h1
 have h6:=Int.toNat_of_nonneg h0
 generalize link.toNat=k at *
 generalize hr:Fl (ls.getD k dL) h=r
 subst h6
 simp +contextual (maxSteps:=4000000) only[↓bdD,bdP,Nat.reduceLT,Nat.reduceBEq,Ar,Nat.reduceAdd,Int.reduceEq,st0,↓reduceIte,BY,Ew,Nat.mul_one,Try.f69,ty3,Cy,AH,Nu,C7,h0,h1,h3,h4,h4i,h5,hr]
theorem wH:wG:=Adw Adx
def ftT (ls:List Lnk) (l:List Snd):Nat→Bool
 | 0=>false
 | k+1=>ftT ls l k||decide (DH ls (l.getD k dS).1 (l.getD k dS).2.1<(l.getD k dS).2.2)
def BZ (hn:Int) (ls:List Lnk) (l:List Snd):Int:=if A6 hn ls l≠0 then A6 hn ls l else if ftT ls l l.length=true then 13 else 0
theorem sP {ls:List Lnk} {l:List Snd} {k m:Nat} (h:ftT ls l k=true) (hk:k≤m):ftT ls l m=true:=by
 induction m with
 | zero=>rwa [show k=0 by omega]at h
 | succ m ih =>
  by_cases e:k=m+1
  ·rwa [←e]
  ·simp only[ftT,ih (by omega),Bool.true_or]
noncomputable def Mc:(Int)×(List Lnk)×(List Snd)→List PV:=fun (hn,ls,l) => [.agg [I hn,AC ls],AA l]
noncomputable def gC:(Int)×(List Lnk)×(List Snd)→PV:=fun (hn,ls,l)=>I (BZ hn ls l)
def gD:(Int)×(List Lnk)×(List Snd)→Prop:=fun (hn,ls,l)=>True
noncomputable def e_fits:Nat×Ent:=(54,.v (Al Mc gC gD))
theorem zF:∀i j,Mc i=Mc j→i=j:=by
 rintro ⟨hn₁,ls₁,l₁⟩ ⟨hn₂,ls₂,l₂⟩ h
 simp only[Mc,List.cons.injEq,and_true,PV.lits.injEq,PV.int.injEq,PV.agg.injEq,true_and,AY,AN]at h
 simp [h] <;> omega
theorem Kl (hn:Int) (ls:List Lnk) (l:List Snd):Al Mc gC gD [.agg [I hn,AC ls],AA l]=some (I (BZ hn ls l)):=AD zF (i:=(hn,ls,l)) trivial
def gE:Prop:=∀(hn:Int) (ls:List Lnk) (l:List Snd) ,VC Try.prog 54 [.agg [I hn,AC ls],AA l] (I (BZ hn ls l))
def gF:Prop:=AT Try.prog e_fits.1 e_fits.2
theorem zG (c:gE):gF:=Ay fun⟨hn,ls,l⟩ h=>c hn ls l
theorem zH:gE:=by
 intro hn ls l
 refine Bk AV (l := [e_right,e_cap]) ((Ae Jy (Ae wH At))) [27] []  Try.func54 rfl (by decide +kernel) (N:=30) rfl (by simp) rfl (by kernel_rfl) fun hs=>?_
 simp only[AJ,PV.small,List.length_map,and_true,true_and]at hs
 by_cases h:A6 hn ls l=0
 case neg =>
  rw [show BZ hn ls l=A6 hn ls l by simp[BZ,h]]
  generalize hr:A6 hn ls l=r at *
  simp +contextual (maxSteps:=4000000) only[↓bdD,bdP,Nat.reduceLT,Nat.reduceBEq,Ar,Nat.reduceAdd,st0,↓reduceIte,e_right,BL,e_cap,Ad,Ab,Try.f54,AH,AR,h,hr]
 have ok:=right_zero.1 h
 have hlen:=ok.len
 rw [show BZ hn ls l=if ftT ls l l.length=true then 13 else 0 by simp[BZ,h]]
 generalize hr:(if ftT ls l l.length=true then (13:Int)else 0)=r
 simp +contextual (maxSteps:=4000000) only[↓bdD,bdP,Nat.reduceLT,Nat.reduceBEq,Nat.reduceAdd,st0,↓reduceIte,e_right,BL,e_cap,Ad,Ab,Try.f54,AH,AR,h]
 refine Az [4,7,16,17,18,19,20,21,22,23,24,25,26,27,28,29] l.length (fun k ρ st'=>ρ 16=I k∧ftT ls l k=false) (.refl _) ?_ ?_
 ·simp +contextual (maxSteps:=4000000) only[↓bdD,bdP,ftT]
 ·rintro k ρ ⟨ob,M⟩ hk ⟨h16,hz⟩
  by_cases hlt:k<l.length
  ·have hw1:IntKind.i64.wrap ((k:Int)+1)=((k+1:Nat):Int):=by rw[Ah (by omega) (by omega)];omega
   have e1:=ok.link k hlt
   have e2:=(ok.tick k hlt).1
   have hs:ftT ls l (k+1)=decide (DH ls (l.getD k dS).1 (l.getD k dS).2.1<(l.getD k dS).2.2):=by simp only[ftT,hz,Bool.false_or]
   generalize hx:l.getD k dS=x at *
   by_cases hb:DH ls x.1 x.2.1<x.2.2
   ·rw [decide_eq_true hb]at hs
    rw [if_pos (sP hs (by omega))]at hr
    subst hr
    simp +contextual (maxSteps:=4000000) only[↓bdD,bdP,Nat.reduceLT,Nat.reduceBEq,Ar,Nat.reduceEqDiff,Nat.reduceAdd,Store.new,Store.set,↓reduceIte,gB,A3,Ab,ty3,AH,AR,CJ,h16,hlt,hx,e1,e2,hb]
   ·rw [decide_eq_false hb]at hs
    simp +contextual (maxSteps:=4000000) only[↓bdD,bdP,Nat.reduceLT,Nat.reduceBEq,Nat.reduceEqDiff,Nat.reduceAdd,Store.new,Store.set,↓reduceIte,gB,A3,Ab,ty3,AH,AR,CJ,h16,hlt,hx,e1,e2,hb,hs,hw1]
  ·have e:k=l.length:=by omega
   subst e
   rw [hz,if_neg (by simp)]at hr
   subst hr
   simp +contextual (maxSteps:=4000000) only[↓bdD,bdP,Nat.reduceLT,Nat.reduceBEq,Ar,↓reduceIte,h16]
theorem gG:gF:=zG zH
end Sim
namespace Sim
open Go Go.Proofs
attribute [local congr] Am An Ai Aw Ap Ao As
theorem Jz {hn:Int} {ls:List Lnk} (h:OKn hn ls) {link tick:Int} (h0:0≤link) (h1:link<(ls.length:Int)):0≤ET ls link tick∧ET ls link tick≤1000000:=by
 have := h.hours link.toNat (tick.toNat % 24) (DW h0 h1) (Nat.mod_lt _ (by omega))
 exact ⟨this.2.2.1,this.2.2.2⟩
theorem Fc {hn:Int} {ls:List Lnk} (h:OKn hn ls) {link tick:Int} (h0:0≤link) (h1:link<(ls.length:Int)):0≤DH ls link tick∧DH ls link tick≤1073741824:=by
 have := h.hours link.toNat (tick.toNat % 24) (DW h0 h1) (Nat.mod_lt _ (by omega))
 exact ⟨this.1,this.2.1⟩
def Fd (ls:List Lnk) (l:List Snd):Nat→Int
 | 0=>0
 | k+1=>Fd ls l k+(l.getD k dS).2.2*ET ls (l.getD k dS).1 (l.getD k dS).2.1
def Fe (hn:Int) (ls:List Lnk) (l:List Snd):Int:=if A6 hn ls l≠0 then 0 else Fd ls l l.length
theorem N4 {a b A B:Int} (h0:0≤a) (h1:a≤A) (h2:0≤b) (h3:b≤B):0≤a*b∧a*b≤A*B :=
 ⟨Int.mul_nonneg h0 h2,Int.mul_le_mul h1 h3 h2 (by omega)⟩
theorem Si {hn:Int} {ls:List Lnk} {l:List Snd} (ok:OKr hn ls l):∀k:Nat,k≤l.length→0≤Fd ls l k∧Fd ls l k≤1073741824000000*(k:Int)
 | 0,_=>⟨Int.le_refl _,by simp[Fd]⟩
 | k+1,h=>by
  have ih:=Si ok k (by omega)
  have h1:=ok.link k (by omega)
  have h2:=ok.bytes k (by omega)
  have h3:=Jz ok.net h1.1 h1.2 (tick:=(l.getD k dS).2.1)
  have h4:=N4 (by omega) h2.2 h3.1 h3.2
  simp only[Fd]
  omega
theorem sQ {hn:Int} {ls:List Lnk} {l:List Snd} (ok:OKr hn ls l) {k:Nat} (h:k<l.length):IntKind.i64.wrap ((l.getD k dS).2.2*ET ls (l.getD k dS).1 (l.getD k dS).2.1)=(l.getD k dS).2.2*ET ls (l.getD k dS).1 (l.getD k dS).2.1 ∧
  IntKind.i64.wrap (Fd ls l k+(l.getD k dS).2.2*ET ls (l.getD k dS).1 (l.getD k dS).2.1)=Fd ls l (k+1):=by
 have h0:=ok.len
 have h1:=ok.link k h
 have h2:=ok.bytes k h
 have h3:=Jz ok.net h1.1 h1.2 (tick:=(l.getD k dS).2.1)
 have h4:=N4 (by omega) h2.2 h3.1 h3.2
 have h5:=Si ok k (by omega)
 exact ⟨Ah (by omega) (by omega),Ah (by omega) (by omega)⟩
noncomputable def Md:(Int)×(List Lnk)×(List Snd)→List PV:=fun (hn,ls,l) => [.agg [I hn,AC ls],AA l]
noncomputable def gH:(Int)×(List Lnk)×(List Snd)→PV:=fun (hn,ls,l)=>.tuple [I (Fe hn ls l),I (A6 hn ls l)]
def gI:(Int)×(List Lnk)×(List Snd)→Prop:=fun (hn,ls,l)=>True
noncomputable def e_cost:Nat×Ent:=(25,.v (Al Md gH gI))
theorem zI:∀i j,Md i=Md j→i=j:=by
 rintro ⟨hn₁,ls₁,l₁⟩ ⟨hn₂,ls₂,l₂⟩ h
 simp only[Md,List.cons.injEq,and_true,PV.lits.injEq,PV.int.injEq,PV.agg.injEq,true_and,AY,AN]at h
 simp [h] <;> omega
theorem gJ (hn:Int) (ls:List Lnk) (l:List Snd):Al Md gH gI [.agg [I hn,AC ls],AA l]=some (.tuple [I (Fe hn ls l),I (A6 hn ls l)]):=AD zI (i:=(hn,ls,l)) trivial
def gL:Prop:=∀(hn:Int) (ls:List Lnk) (l:List Snd) ,VC Try.prog 25 [.agg [I hn,AC ls],AA l] (.tuple [I (Fe hn ls l),I (A6 hn ls l)])
def gM:Prop:=AT Try.prog e_cost.1 e_cost.2
theorem zJ (c:gL):gM:=Ay fun⟨hn,ls,l⟩ h=>c hn ls l
theorem zK:gL:=by
 intro hn ls l
 refine Bk AV (l := [e_right]) ((Ae Jy At)) [] []  Try.func25 rfl (by decide +kernel) (N:=40) rfl (by simp) rfl (by kernel_rfl) fun hs=>?_
 simp only[AJ,PV.small,List.length_map,and_true,true_and]at hs
 by_cases h:A6 hn ls l=0
 case neg =>
  rw [show Fe hn ls l=0 by simp[Fe,h]]
  generalize hr:A6 hn ls l=r at *
  simp +contextual (maxSteps:=4000000) only[↓bdD,bdP,Nat.reduceLT,Nat.reduceBEq,Ar,Nat.reduceAdd,st0,↓reduceIte,e_right,BL,Ad,Ab,Try.f25,AH,AR,h,hr]
 have ok:=right_zero.1 h
 have hlen:=ok.len
 rw [show Fe hn ls l=Fd ls l l.length by simp[Fe,h],h]
 generalize hr:Fd ls l l.length=r
 simp +contextual (maxSteps:=4000000) only[↓bdD,bdP,Nat.reduceLT,Nat.reduceBEq,Nat.reduceAdd,st0,↓reduceIte,e_right,BL,Ad,Ab,Try.f25,AH,AR,h]
 refine Az [7,9,18,19,20,21,22,23,24,25,26,27,28,29,30,31,32,33,34,35,36,37,38] l.length (fun k ρ st'=>ρ 18=I k∧ρ 7=I (Fd ls l k)) (.refl _) ?_ ?_
 ·simp +contextual (maxSteps:=4000000) only[↓bdD,bdP,Nat.reduceBEq,Fd]
 ·rintro k ρ ⟨ob,M⟩ hk ⟨h18,h7⟩
  by_cases hlt:k<l.length
  ·have hw1:IntKind.i64.wrap ((k:Int)+1)=((k+1:Nat):Int):=by rw[Ah (by omega) (by omega)];omega
   have e1:=ok.link k hlt
   have e2:=(ok.tick k hlt).1
   have hw:=sQ ok hlt
   generalize hx:l.getD k dS=x at *
   have h3:=PN e2
   have h4:x.2.1.toNat % 24<24:=Nat.mod_lt _ (by omega)
   have h4i:((x.2.1.toNat % 24:Nat):Int)<24:=by omega
   unfold ET at hw
   generalize x.2.1.toNat % 24=hh at *
   have h5:=DW e1.1 e1.2
   have h6:=Int.toNat_of_nonneg e1.1
   generalize x.1.toNat=kk at *
   simp +contextual (maxSteps:=4000000) only[↓bdD,bdP,Nat.reduceLT,Nat.reduceBEq,Nat.reduceAdd,Int.reduceEq,Store.new,Store.set,↓reduceIte,A3,BY,Gd,Nat.mul_one,ty3,Cy,AH,AR,Nu,C7,CJ,h18,h7,hlt,hx,h3,h4,h4i,h5,←h6,hw,hw1]
  ·have e:k=l.length:=by omega
   subst e
   rw [hr]at h7
   simp +contextual (maxSteps:=4000000) only[↓bdD,bdP,Nat.reduceLT,Nat.reduceBEq,Ar,↓reduceIte,h18,h7]
theorem gQ:gM:=zJ zK
def Bx (l:List Snd) (link tick:Int):Nat→Int
 | 0=>0
 | k+1=>Bx l link tick k+if (l.getD k dS).1=link∧(l.getD k dS).2.1=tick then (l.getD k dS).2.2 else 0
def DP (hn:Int) (ls:List Lnk) (l:List Snd) (link tick:Int):Int×Int :=
 if A6 hn ls l≠0 then (0,A6 hn ls l)else if link<0∨(ls.length:Int)≤link∨tick<0∨1000000≤tick then (0,1)else (DH ls link tick-Bx l link tick l.length,0)
def smB (l:List Snd):Prop:=l.length≤2000∧∀k,k<l.length→1≤(l.getD k dS).2.2∧(l.getD k dS).2.2≤1073741824
theorem Sj {l:List Snd} (h:smB l) (link tick:Int):∀k:Nat,k≤l.length→0≤Bx l link tick k∧Bx l link tick k≤1073741824*(k:Int)
 | 0,_=>⟨Int.le_refl _,by simp[Bx]⟩
 | k+1,hk=>by
  have ih:=Sj h link tick k (by omega)
  have h2:=h.2 k (by omega)
  simp only[Bx]
  split <;> omega
theorem OKr.smB {hn:Int} {ls:List Lnk} {l:List Snd} (h:OKr hn ls l):smB l:=⟨h.len,h.bytes⟩
noncomputable def Me:(Int)×(List Lnk)×(List Snd)×(Int)×(Int)→List PV:=fun (hn,ls,l,link,tick) => [.agg [I hn,AC ls],AA l,I link,I tick]
noncomputable def gR:(Int)×(List Lnk)×(List Snd)×(Int)×(Int)→PV:=fun (hn,ls,l,link,tick)=>.tuple [I (DP hn ls l link tick).1,I (DP hn ls l link tick).2]
def gT:(Int)×(List Lnk)×(List Snd)×(Int)×(Int)→Prop:=fun (hn,ls,l,link,tick)=>True
noncomputable def e_left:Nat×Ent:=(61,.v (Al Me gR gT))
theorem zL:∀i j,Me i=Me j→i=j:=by
 rintro ⟨hn₁,ls₁,l₁,link₁,tick₁⟩ ⟨hn₂,ls₂,l₂,link₂,tick₂⟩ h
 simp only[Me,List.cons.injEq,and_true,PV.lits.injEq,PV.int.injEq,PV.agg.injEq,true_and,AY,AN]at h
 simp [h] <;> omega
theorem zM (hn:Int) (ls:List Lnk) (l:List Snd) (link:Int) (tick:Int):Al Me gR gT [.agg [I hn,AC ls],AA l,I link,I tick]=some (.tuple [I (DP hn ls l link tick).1,I (DP hn ls l link tick).2]):=AD zL (i:=(hn,ls,l,link,tick)) trivial
def gU:Prop:=∀(hn:Int) (ls:List Lnk) (l:List Snd) (link:Int) (tick:Int) ,VC Try.prog 61 [.agg [I hn,AC ls],AA l,I link,I tick] (.tuple [I (DP hn ls l link tick).1,I (DP hn ls l link tick).2])
def gV:Prop:=AT Try.prog e_left.1 e_left.2
theorem zN (c:gU):gV:=Ay fun⟨hn,ls,l,link,tick⟩ h=>c hn ls l link tick
theorem zO:gU:=by
 intro hn ls l link tick
 refine Bk AV (l := [e_right,e_cap]) ((Ae Jy (Ae wH At))) [] []  Try.func61 rfl (by decide +kernel) (N:=63) rfl (by simp) rfl (by kernel_rfl) fun hs=>?_
 simp only[AJ,PV.small,List.length_map,and_true,true_and]at hs
 by_cases h:A6 hn ls l=0
 case neg =>
  rw [show DP hn ls l link tick=(0,A6 hn ls l) by simp[DP,h]]
  generalize hr:A6 hn ls l=r at *
  simp +contextual (maxSteps:=4000000) only[↓bdD,bdP,Nat.reduceLT,Nat.reduceBEq,Ar,Nat.reduceAdd,st0,↓reduceIte,e_right,BL,e_cap,Ad,Ab,Try.f61,AH,AR,h,hr]
 have ok:=right_zero.1 h
 have hlen:=ok.len
 by_cases hb:link<0∨(ls.length:Int)≤link∨tick<0∨1000000≤tick
 ·rw [show DP hn ls l link tick=(0,1) by simp only[DP,h,ne_eq,not_true_eq_false,if_false];rw[if_pos hb]]
  have e:link<0∨(¬link<0∧(ls.length:Int)≤link)∨(¬link<0∧¬(ls.length:Int)≤link∧tick<0)∨(¬link<0∧¬(ls.length:Int)≤link∧¬tick<0∧1000000≤tick):=by omega
  rcases e with e | e | e | e
  ·simp +contextual (maxSteps:=4000000) only[↓bdD,bdP,Nat.reduceLT,Nat.reduceBEq,Ar,Nat.reduceAdd,st0,↓reduceIte,e_right,BL,e_cap,Ad,Ab,Try.f61,AH,AR,h,e]
  ·simp +contextual (maxSteps:=4000000) only[↓bdD,bdP,Nat.reduceLT,Nat.reduceBEq,Ar,Nat.reduceAdd,st0,↓reduceIte,e_right,BL,e_cap,Ad,Ab,Try.f61,Cy,AH,AR,h,e]
  ·simp +contextual (maxSteps:=4000000) only[↓bdD,bdP,Nat.reduceLT,Nat.reduceBEq,Ar,Nat.reduceAdd,st0,↓reduceIte,e_right,BL,e_cap,Ad,Ab,Try.f61,Cy,AH,AR,h,e]
  ·simp +contextual (maxSteps:=4000000) only[↓bdD,bdP,Nat.reduceLT,Nat.reduceBEq,Ar,Nat.reduceAdd,st0,↓reduceIte,e_right,BL,e_cap,Ad,Ab,Try.f61,Cy,AH,AR,h,e]
 rw [show DP hn ls l link tick=(DH ls link tick-Bx l link tick l.length,0) by simp only[DP,h,ne_eq,not_true_eq_false,if_false];rw[if_neg hb]]
 have e:¬link<0∧¬(ls.length:Int)≤link∧¬tick<0∧¬1000000≤tick∧0≤link∧link<(ls.length:Int)∧0≤tick:=by omega
 have hcap:=Fc ok.net e.2.2.2.2.1 e.2.2.2.2.2.1 (tick:=tick)
 have hb:=ok.smB
 generalize hr:DH ls link tick-Bx l link tick l.length=r
 simp +contextual (maxSteps:=4000000) only[↓bdD,bdP,Nat.reduceLT,Nat.reduceBEq,Nat.reduceEqDiff,Nat.reduceAdd,st0,↓reduceIte,e_right,BL,e_cap,gB,Ad,Ab,Try.f61,ty3,Cy,AH,AR,h,e]
 refine Az [11,13,43,44,45,46,47,48,49,50,51,52,53,54,55,56,57,58,59,60,61] l.length (fun k ρ st'=>ρ 43=I k∧ρ 11=I (DH ls link tick-Bx l link tick k)) (.refl _) ?_ ?_
 ·simp +contextual (maxSteps:=4000000) only[↓bdD,bdP,Nat.reduceBEq,Bx,Int.sub_zero]
 ·rintro k ρ ⟨ob,M⟩ hk ⟨h43,h11⟩
  by_cases hlt:k<l.length
  ·have hw1:IntKind.i64.wrap ((k:Int)+1)=((k+1:Nat):Int):=by rw[Ah (by omega) (by omega)];omega
   have hs:=Sj hb link tick k hk
   have hbk:=hb.2 k hlt
   have hstep:Bx l link tick (k+1)=Bx l link tick k+if (l.getD k dS).1=link∧(l.getD k dS).2.1=tick then (l.getD k dS).2.2 else 0:=rfl
   generalize hx:l.getD k dS=x at *
   by_cases e1:x.1=link
   ·by_cases e2:x.2.1=tick
    ·rw [if_pos ⟨e1,e2⟩]at hstep
     have hw2:IntKind.i64.wrap (DH ls link tick-Bx l link tick k-x.2.2)=DH ls link tick-Bx l link tick (k+1):=by rw[hstep,Ah (by omega) (by omega)];omega
     simp +contextual (maxSteps:=4000000) only[↓bdD,bdP,Nat.reduceLT,Nat.reduceBEq,Nat.reduceAdd,Store.new,Store.set,↓reduceIte,A3,ty3,AR,CJ,h43,h11,hlt,hx,e1,e2,hw1,hw2]
    ·rw [if_neg (fun h=>e2 h.2),Int.add_zero]at hstep
     simp +contextual (maxSteps:=4000000) only[↓bdD,bdP,Nat.reduceLT,Nat.reduceBEq,Nat.reduceAdd,Store.new,Store.set,↓reduceIte,A3,ty3,AR,CJ,h43,h11,hlt,hx,e1,e2,hw1,hstep]
   ·rw [if_neg (fun h=>e1 h.1),Int.add_zero]at hstep
    simp +contextual (maxSteps:=4000000) only[↓bdD,bdP,Nat.reduceLT,Nat.reduceBEq,Nat.reduceAdd,Store.new,Store.set,↓reduceIte,A3,ty3,AR,CJ,h43,h11,hlt,hx,e1,hw1,hstep]
  ·have e:k=l.length:=by omega
   subst e
   rw [hr]at h11
   simp +contextual (maxSteps:=4000000) only[↓bdD,bdP,Nat.reduceLT,Nat.reduceBEq,Ar,↓reduceIte,h43,h11]
theorem zP:gV:=zN zO
end Sim
