/- What functions of this seat compute, by values: contracts (lemmas of the statement's proof, under the conditions that each names). -/
import Derived.Test.YtppljhpecoeakaaQF7
import Derived.Test.YtppljhpecoeakaaQBD
set_option linter.unusedVariables false
set_option linter.unusedSimpArgs false
set_option maxRecDepth 10000
set_option maxHeartbeats 2000000
namespace Sim
structure SB (A:List Arc) (N m s t:Nat) (sent:Int):Prop where
 wp : WPr A m
 ar : ∀k,k<A.length→aF A k<N∧aT A k<N
 sN : s<N
 tN : t<N
 st : s≠t
 pr : ∀k,k<A.length → -1000000≤aP A k∧aP A k≤1000000
 val : (fnA A N s t).Val (flA A) sent
 pot : ∃φ:Nat→Int,∀k,k<A.length→0<aL A k→0≤aP A k+φ (aF A k)-φ (aT A k)
theorem SI.sb {A:List Arc} {out:List (List Nat)} {lv:List Int} {N m s t:Nat} {sent:Int} (S:SI A out lv N m s t sent):SB A N m s t sent :=
 ⟨S.wp, S.ar,S.sN,S.tN,S.st,S.pr,S.val,by obtain⟨φ,h,_⟩:=S.pot;exact⟨φ,h⟩⟩
def fV (A:List Arc) (N s t:Nat):List Nat:=Es A (PF A N s).last s N t
section
variable {A:List Arc} {N m s t:Nat} {sent p bytes:Int}
end
inductive SpecR (N s t:Nat) (bytes:Int):List Arc→Int→List Arc→Int→Prop
 | full (A sent) (h:¬sent<bytes):SpecR N s t bytes A sent A sent
 | stop (A sent) (h:sent<bytes) (hd:(PF A N s).known.getD t false=false):SpecR N s t bytes A sent A sent
 | step (A sent A' r) (h:sent<bytes) (hd:(PF A N s).known.getD t false=true)
   (hr : SpecR N s t bytes (aug A (CI A (bytes-sent) (fV A N s t)) (fV A N s t)) (sent+CI A (bytes-sent) (fV A N s t)) A' r):SpecR N s t bytes A sent A' r
section
variable {A:List Arc} {N m s t:Nat} {sent bytes:Int}
end
end Sim
namespace Sim
open Go Go.Proofs
theorem AV:Try.prog.follows .mixedOrders=true:=by kernel_rfl
abbrev itV (x:It):PV:=.agg [I x.1,I (x.2:Nat)]
theorem Ju {l:List It} {k:Nat} (h:k<l.length):nth (l.map itV) k=.agg [I (l.getD k dI).1,I ((l.getD k dI).2:Nat)]:=D7 dI h
theorem rZ {l:List It}:AL (l.map itV)=true:=HK fun x=>by simp[Jj,Dl,Fa,Fy]
theorem VW {l m:List It}:(l.map itV=m.map itV)=(l=m):=HL fun x y h=>by
 simp only[PV.agg.injEq,List.cons.injEq,true_and,and_true,PV.int.injEq]at h
 exact Prod.ext h.1 (by omega)
abbrev CY (a:Arc):PV:=.agg [I (a.1:Nat),I (a.2.1:Nat),I a.2.2.1,I a.2.2.2]
theorem B8 {l:List Arc} {k:Nat} (h:k<l.length):nth (l.map CY) k=.agg [I ((l.getD k dA).1:Nat),I ((l.getD k dA).2.1:Nat),I (l.getD k dA).2.2.1,I (l.getD k dA).2.2.2]:=D7 dA h
theorem fW {l:List Arc}:AL (l.map CY)=true:=HK fun x=>by simp[Jj,Dl,Fa,Fy]
theorem Ma {l m:List Arc}:(l.map CY=m.map CY)=(l=m):=HL fun x y h=>by
 simp only[PV.agg.injEq,List.cons.injEq,true_and,and_true,PV.int.injEq]at h
 exact Prod.ext (by omega) (Prod.ext (by omega) (Prod.ext h.2.2.1 h.2.2.2))
abbrev Lnk:=Int×Int×(Fin 24→Int)×(Fin 24→Int)
abbrev dL:Lnk:=(0,0,fun _=>0,fun _=>0)
def lkC (a:Lnk):List PV:=I a.1::I a.2.1::((List.ofFn a.2.2.1).map (PV.int .i64)++(List.ofFn a.2.2.2).map (PV.int .i64))
abbrev Vb (a:Lnk):PV:=.agg (lkC a)
abbrev AC (l:List Lnk):PV:=.lits 50 (l.map Vb)
abbrev Net:=Int×List Lnk
abbrev fX (n:Net):PV:=.agg [I n.1,AC n.2]
abbrev Snd:=Int×Int×Int
abbrev dS:Snd:=(0,0,0)
abbrev GC (a:Snd):PV:=.agg [I a.1,I a.2.1,I a.2.2]
abbrev AA (l:List Snd):PV:=.lits 3 (l.map GC)
def Fl (a:Lnk) (h:Nat):Int:=if g:h<24 then a.2.2.1 ⟨h,g⟩else 0
def GD (a:Lnk) (h:Nat):Int:=if g:h<24 then a.2.2.2 ⟨h,g⟩else 0
theorem K8 {f:Fin 24→Int} {h:Nat} (g:h<24):(List.ofFn f)[h]?=some (f ⟨h,g⟩):=by
 rw [List.getElem?_eq_getElem (by rw[List.length_ofFn];exact g),List.getElem_ofFn]
theorem fY {f g:Fin 24→Int} (h:List.ofFn f=List.ofFn g):f=g:=funext fun i=>by
 have h1:=K8 (f:=f) i.2
 have h2:=K8 (f:=g) i.2
 rw [h,h2]at h1
 exact (Option.some.inj h1).symm
theorem Hi {f:Fin 24→Int}:((List.ofFn f).map (PV.int .i64)).length=24:=by rw[List.length_map,List.length_ofFn]
theorem B9 {a:Lnk}:(lkC a).length=50:=by simp[lkC]
theorem Hj {a:Lnk}:(lkC a)[0]?=some (I a.1):=by simp[lkC]
theorem N1 {a:Lnk}:(lkC a)[1]?=some (I a.2.1):=by simp[lkC]
theorem Ew {a:Lnk} {h:Nat} (g:h<24):(lkC a)[2+h]?=some (I (Fl a h)):=by
 simp only[lkC,Fl,g,dite_true]
 rw [show 2+h=h+1+1 by omega,List.getElem?_cons_succ,List.getElem?_cons_succ,List.getElem?_append_left (by rw[Hi];exact g),List.getElem?_map,K8 g];rfl
theorem Gd {a:Lnk} {h:Nat} (g:h<24):(lkC a)[26+h]?=some (I (GD a h)):=by
 simp only[lkC,GD,g,dite_true]
 rw [show 26+h=(24+h)+1+1 by omega,List.getElem?_cons_succ,List.getElem?_cons_succ,List.getElem?_append_right (by rw[Hi];omega),Hi,show 24+h-24=h by omega,List.getElem?_map,K8 g];rfl
theorem Eb {a:Lnk}:List.take 50 (lkC a)=lkC a:=List.take_of_length_le (by rw[B9];omega)
theorem sA {a b:Lnk} (h:lkC a=lkC b):a=b:=by
 simp only[lkC,List.cons.injEq,PV.int.injEq,true_and]at h
 obtain ⟨h1,h2,h3⟩:=h
 obtain ⟨h4,h5⟩:=List.append_inj h3 (by rw[Hi,Hi])
 have e:∀ {f g:Fin 24→Int},(List.ofFn f).map (PV.int .i64)=(List.ofFn g).map (PV.int .i64)→f=g:=fun h=>fY (Fx (fun x y h=>by injection h) h)
 exact Prod.ext h1 (Prod.ext h2 (Prod.ext (e h4) (e h5)))
theorem VX {a:Lnk}:AL (lkC a)=true:=by
 have : ∀ {l:List Int} {r:List PV},AL r=true→AL (l.map (PV.int .i64)++r)=true:=by
  intro l r h
  induction l with
  | nil=>exact h
  | cons a l ih=>simp[Dl,Fa,ih]
 simp only[lkC,Dl,Fa,Bool.true_and]
 exact this (Hb)
theorem BY {l:List Lnk} {k:Nat} (h:k<l.length):nth (l.map Vb) k=.agg (lkC (l.getD k dL)):=D7 dL h
theorem Ab {l:List Lnk}:AL (l.map Vb)=true:=HK fun x=>by rw[Jj,VX]
theorem AN {l m:List Lnk}:(l.map Vb=m.map Vb)=(l=m):=HL fun x y h=>by
 simp only[PV.agg.injEq]at h
 exact sA h
theorem A3 {l:List Snd} {k:Nat} (h:k<l.length):nth (l.map GC) k=.agg [I (l.getD k dS).1,I (l.getD k dS).2.1,I (l.getD k dS).2.2]:=D7 dS h
theorem Ad {l:List Snd}:AL (l.map GC)=true:=HK fun x=>by simp[Jj,Dl,Fa,Fy]
theorem AY {l m:List Snd}:(l.map GC=m.map GC)=(l=m):=HL fun x y h=>by
 simp only[PV.agg.injEq,List.cons.injEq,true_and,and_true,PV.int.injEq]at h
 exact Prod.ext h.1 (Prod.ext h.2.1 h.2.2)
end Sim
namespace Sim
open Go Go.Proofs
attribute [local congr] Am An Ai Aw Ap Ao As
def hOK (hn:Int) (h:Int):Bool:=decide (0≤h∧h<hn)
def GF (a:Lnk):Nat→Bool
 | 0=>false
 | h+1=>GF a h||decide (Fl a h<0∨1073741824<Fl a h∨GD a h<0∨1000000<GD a h)
def PI (hn:Int) (a:Lnk):Int:=if hOK hn a.1=false∨hOK hn a.2.1=false∨a.1=a.2.1 then 1 else if GF a 24=true then 3 else 0
def ckT (hn:Int) (ls:List Lnk):Nat→Int
 | 0=>0
 | k+1=>if ckT hn ls k≠0 then ckT hn ls k else PI hn (ls.getD k dL)
def Ek (hn:Int) (ls:List Lnk):Int:=if hn<1∨12<hn∨60<ls.length then 2 else ckT hn ls ls.length
theorem N2 {hn:Int} {ls:List Lnk} {k:Nat} (h:ckT hn ls k≠0):∀m,ckT hn ls (k+m)=ckT hn ls k
 | 0=>rfl
 | m+1=>by
  have ih:=N2 h m
  show (if ckT hn ls (k+m)≠0 then ckT hn ls (k+m)else _)=_
  rw [ih,if_pos h]
theorem VY {hn:Int} {ls:List Lnk} {k m:Nat} (h:ckT hn ls k≠0) (hk:k≤m):ckT hn ls m=ckT hn ls k:=by
 have := N2 h (m-k)
 rwa [show k+(m-k)=m by omega]at this
theorem Mb {a:Lnk} {k:Nat} (h:GF a k=true):∀m,GF a (k+m)=true
 | 0=>h
 | m+1=>by show (GF a (k+m)||_)=true;rw[Mb h m];rfl
theorem fZ {a:Lnk} {k m:Nat} (h:GF a k=true) (hk:k≤m):GF a m=true:=by
 have := Mb h (m-k)
 rwa [show k+(m-k)=m by omega]at this
noncomputable def Jv:(Int)×(List Lnk)×(Int)→List PV:=fun (hn,ls,h) => [I h,.vptr [I hn,AC ls] 0]
noncomputable def VZ:(Int)×(List Lnk)×(Int)→PV:=fun (hn,ls,h)=>B (hOK hn h)
def V0:(Int)×(List Lnk)×(Int)→Prop:=fun (hn,ls,h)=>True
noncomputable def e_house:Nat×Ent:=(79,.v (Al Jv VZ V0))
theorem sB:∀i j,Jv i=Jv j→i=j:=by
 rintro ⟨hn₁,ls₁,h₁⟩ ⟨hn₂,ls₂,h₂⟩ h
 simp only[Jv,List.cons.injEq,and_true,PV.lits.injEq,PV.int.injEq,PV.vptr.injEq,true_and,AN]at h
 simp [h] <;> omega
theorem K9 (hn:Int) (ls:List Lnk) (h:Int):Al Jv VZ V0 [I h,.vptr [I hn,AC ls] 0]=some (B (hOK hn h)):=AD sB (i:=(hn,ls,h)) trivial
def V1:Prop:=∀(hn:Int) (ls:List Lnk) (h:Int) ,VC Try.prog 79 [I h,.vptr [I hn,AC ls] 0] (B (hOK hn h))
def V2:Prop:=AT Try.prog e_house.1 e_house.2
theorem sC (c:V1):V2:=Ay fun⟨hn,ls,h⟩ h=>c hn ls h
theorem sD:V1:=by
 intro hn ls h
 refine Bk AV (l := []) (At) [] []  Try.func79 rfl (by decide +kernel) (N:=12) rfl (by simp) rfl (by kernel_rfl) fun hs=>?_
 simp only[AJ,PV.small,List.length_map,and_true,true_and]at hs
 generalize hr:hOK hn h=r
 by_cases h1:0≤h
 ·by_cases h2:h<hn
  ·simp only[hOK,h1,h2,and_self,decide_true]at hr
   subst hr
   simp +contextual (maxSteps:=4000000) only[↓bdD,bdP,Nat.reduceLT,Nat.reduceBEq,Ar,Nat.reduceAdd,st0,↓reduceIte,Try.f79,ty3,AH,h1,h2]
  ·simp only[hOK,h1,h2,and_false,decide_false]at hr
   subst hr
   simp +contextual (maxSteps:=4000000) only[↓bdD,bdP,Nat.reduceLT,Nat.reduceBEq,Ar,Nat.reduceAdd,st0,↓reduceIte,Try.f79,ty3,AH,h1,h2]
 ·simp only[hOK,h1,false_and,decide_false]at hr
  subst hr
  simp +contextual (maxSteps:=4000000) only[↓bdD,bdP,Nat.reduceLT,Nat.reduceBEq,Ar,st0,↓reduceIte,Try.f79,h1]
theorem sE:V2:=sC sD
noncomputable def Jw:(Int)×(List Lnk)→List PV:=fun (hn,ls) => [.agg [I hn,AC ls]]
noncomputable def V3:(Int)×(List Lnk)→PV:=fun (hn,ls)=>I (Ek hn ls)
def V4:(Int)×(List Lnk)→Prop:=fun (hn,ls)=>True
noncomputable def e_check:Nat×Ent:=(67,.v (Al Jw V3 V4))
theorem sF:∀i j,Jw i=Jw j→i=j:=by
 rintro ⟨hn₁,ls₁⟩ ⟨hn₂,ls₂⟩ h
 simp only[Jw,List.cons.injEq,and_true,PV.lits.injEq,PV.int.injEq,PV.agg.injEq,true_and,AN]at h
 simp [h] <;> omega
theorem PJ (hn:Int) (ls:List Lnk):Al Jw V3 V4 [.agg [I hn,AC ls]]=some (I (Ek hn ls)):=AD sF (i:=(hn,ls)) trivial
def V5:Prop:=∀(hn:Int) (ls:List Lnk) ,VC Try.prog 67 [.agg [I hn,AC ls]] (I (Ek hn ls))
def V6:Prop:=AT Try.prog e_check.1 e_check.2
theorem sG (c:V5):V6:=Ay fun⟨hn,ls⟩ h=>c hn ls
theorem sH:V5:=by
 intro hn ls
 refine Bk AV (l := [e_house]) ((Ae sE At)) [] []  Try.func67 rfl (by decide +kernel) (N:=79) rfl (by simp) rfl (by kernel_rfl) fun hs=>?_
 simp only[AJ,PV.small,List.length_map,and_true,true_and]at hs
 generalize hr:Ek hn ls=r
 unfold Ek at hr
 by_cases h1:hn<1
 ·rw [if_pos (.inl h1)]at hr
  subst hr
  simp +contextual (maxSteps:=4000000) only[↓bdD,bdP,Nat.reduceLT,Nat.reduceBEq,Ar,Nat.reduceAdd,st0,↓reduceIte,e_house,Try.f67,ty3,AH,h1]
 by_cases h2:12<hn
 ·rw [if_pos (.inr (.inl h2))]at hr
  subst hr
  simp +contextual (maxSteps:=4000000) only[↓bdD,bdP,Nat.reduceLT,Nat.reduceBEq,Ar,Nat.reduceAdd,st0,↓reduceIte,e_house,Try.f67,ty3,AH,h1,h2]
 by_cases h3:60<ls.length
 ·rw [if_pos (.inr (.inr h3))]at hr
  subst hr
  have h3i:(60:Int)<(ls.length:Int):=by omega
  simp +contextual (maxSteps:=4000000) only[↓bdD,bdP,Nat.reduceLT,Nat.reduceBEq,Ar,Nat.reduceAdd,st0,↓reduceIte,e_house,Try.f67,ty3,Cy,AH,h1,h2,h3i]
 rw [if_neg (fun h=>h.elim h1 (fun h=>h.elim h2 h3))]at hr
 have h3':¬(60<(ls.length:Int)):=by omega
 have hw:∀i:Nat,i<100→IntKind.i64.wrap ((i:Int)+1)=((i+1:Nat):Int):=fun i g=>by rw[Ah (by omega) (by omega)];omega
 simp +contextual (maxSteps:=4000000) only[↓bdD,bdP,Nat.reduceLT,Nat.reduceBEq,Nat.reduceAdd,st0,↓reduceIte,e_house,Try.f67,ty3,Cy,AH,h1,h2,h3']
 refine Az [2,5,6,25,26,27,28,29,30,31,32,33,34,35,36,37,38,39,40,41,42,43,44,45,46,47,48,49,50,51,52,53,54,55,56,57,58,59,60,61,62,63,64,65,66,67,68,69,70,71,72,73,74,75,76,77,78] ls.length (fun k ρ st'=>ρ 25=I k∧ckT hn ls k=0) (.refl _) ?_ ?_
 ·simp +contextual (maxSteps:=4000000) only[↓bdD,bdP,ckT]
 ·rintro k ρ ⟨ob,M⟩ hk ⟨h25,hc⟩
  by_cases hlt:k<ls.length
  ·have hstep:ckT hn ls (k+1)=PI hn (ls.getD k dL):=by simp only[ckT,hc,ne_eq,not_true_eq_false,if_false]
   have hk64:k<100:=by omega
   have hw1:=hw k hk64
   by_cases hb:hOK hn (ls.getD k dL).1=false∨hOK hn (ls.getD k dL).2.1=false∨(ls.getD k dL).1=(ls.getD k dL).2.1
   ·have hb1:PI hn (ls.getD k dL)=1:=by unfold PI;rw[if_pos hb]
    rw [hb1]at hstep
    have hend:=VY (m:=ls.length) (by rw[hstep];decide) (show k+1≤ls.length by omega)
    rw [hend,hstep]at hr
    subst hr
    cases g1:hOK hn (ls.getD k dL).1
    ·simp +contextual (maxSteps:=4000000) only[↓bdD,bdP,Nat.reduceLT,Nat.reduceBEq,Ar,Nat.reduceAdd,Nat.reduceLeDiff,Store.new,Store.set,↓reduceIte,K9,BY,Ab,B9,Hj,Eb,ty3,Cy,C7,h25,hlt,g1]
    cases g2:hOK hn (ls.getD k dL).2.1
    ·simp +contextual (maxSteps:=4000000) only[↓bdD,bdP,Nat.reduceLT,Nat.reduceBEq,Ar,Nat.reduceAdd,Nat.reduceLeDiff,Store.new,Store.set,↓reduceIte,K9,BY,Ab,B9,Hj,N1,Eb,ty3,Cy,C7,h25,hlt,g1,g2]
    have g3:(ls.getD k dL).1=(ls.getD k dL).2.1:=by
     rcases hb with hb | hb | hb
     ·rw [g1]at hb;cases hb
     ·rw [g2]at hb;cases hb
     ·exact hb
    simp +contextual (maxSteps:=4000000) only[↓bdD,bdP,Nat.reduceLT,Nat.reduceBEq,Ar,Nat.reduceAdd,Nat.reduceLeDiff,Store.new,Store.set,↓reduceIte,K9,BY,Ab,B9,Hj,N1,Eb,ty3,Cy,C7,h25,hlt,g2,g3]
   ·have g1:hOK hn (ls.getD k dL).1=true:=by cases g:hOK hn (ls.getD k dL).1;exact absurd (.inl g) hb;rfl
    have g2:hOK hn (ls.getD k dL).2.1=true:=by cases g:hOK hn (ls.getD k dL).2.1;exact absurd (.inr (.inl g)) hb;rfl
    have g3:¬(ls.getD k dL).1=(ls.getD k dL).2.1:=fun g=>hb (.inr (.inr g))
    have hb3:PI hn (ls.getD k dL)=if GF (ls.getD k dL) 24=true then 3 else 0:=by unfold PI;rw[if_neg hb]
    rw [hb3]at hstep
    generalize hx:ls.getD k dL=x at *
    simp +contextual (maxSteps:=4000000) only[↓bdD,bdP,Nat.reduceLT,Nat.reduceBEq,Nat.reduceAdd,Nat.reduceLeDiff,Store.new,Store.set,↓reduceIte,K9,BY,Ab,B9,Hj,N1,Eb,ty3,Cy,C7,h25,hlt,g1,g2,g3,hx]
    refine Az [2,6,48,49,50,51,52,53,54,55,56,57,58,59,60,61,62,63,64,65,66,67,68,69,70,71,72,73,74,75,76,77] 24 (fun h ρ st'=>ρ 48=I h∧GF x h=false∧st'.obj M=some (.arr 0 50 [.agg (lkC x)])) (.refl _) ?_ ?_
    ·simp +contextual (maxSteps:=4000000) only[↓bdD,bdP,GF]
    ·rintro h ρ2 ⟨ob2,M2⟩ hh ⟨h48,hbh,hM⟩
     dsimp only at hM
     by_cases hh24:h<24
     ·have hw2:=hw h (by omega)
      have hi24:(h:Int)<24:=by omega
      have hbs:GF x (h+1)=decide (Fl x h<0∨1073741824<Fl x h∨GD x h<0∨1000000<GD x h):=by simp only[GF,hbh,Bool.false_or]
      by_cases hbad:Fl x h<0∨1073741824<Fl x h∨GD x h<0∨1000000<GD x h
      ·have he:GF x 24=true:=fZ (k:=h+1) (by rw[hbs];exact decide_eq_true hbad) (by omega)
       rw [if_pos he]at hstep
       have hend:=VY (m:=ls.length) (by rw[hstep];decide) (show k+1≤ls.length by omega)
       rw [hend,hstep]at hr
       subst hr
       by_cases c1:Fl x h<0
       ·simp +contextual (maxSteps:=4000000) only[↓bdD,bdP,Nat.reduceLT,Nat.reduceBEq,Ar,Nat.reduceAdd,↓reduceIte,Ew,Nat.mul_one,ty3,Nu,C7,h48,hM,hh24,hi24,c1]
       by_cases c2:1073741824<Fl x h
       ·simp +contextual (maxSteps:=4000000) only[↓bdD,bdP,Nat.reduceLT,Nat.reduceBEq,Ar,Nat.reduceAdd,↓reduceIte,Ew,Nat.mul_one,ty3,Nu,C7,h48,hM,hh24,hi24,c1,c2]
       by_cases c3:GD x h<0
       ·simp +contextual (maxSteps:=4000000) only[↓bdD,bdP,Nat.reduceLT,Nat.reduceBEq,Ar,Nat.reduceAdd,↓reduceIte,Ew,Gd,Nat.mul_one,ty3,Nu,C7,h48,hM,hh24,hi24,c1,c2,c3]
       have c4:1000000<GD x h:=by omega
       simp +contextual (maxSteps:=4000000) only[↓bdD,bdP,Nat.reduceLT,Nat.reduceBEq,Ar,Nat.reduceAdd,↓reduceIte,Ew,Gd,Nat.mul_one,ty3,Nu,C7,h48,hM,hh24,hi24,c1,c2,c3,c4]
      ·rw [decide_eq_false hbad]at hbs
       have c1:¬Fl x h<0:=by omega
       have c2:¬1073741824<Fl x h:=by omega
       have c3:¬GD x h<0:=by omega
       have c4:¬1000000<GD x h:=by omega
       simp +contextual (maxSteps:=4000000) only[↓bdD,bdP,Nat.reduceLT,Nat.reduceBEq,Nat.reduceAdd,↓reduceIte,Ew,Gd,Nat.mul_one,ty3,Nu,C7,h48,hM,hh24,hi24,c1,c2,c3,c4,hw2,hbs]
     ·have e:h=24:=by omega
      subst e
      rw [hbh,if_neg (by simp)]at hstep
      simp +contextual (maxSteps:=4000000) only[↓bdD,bdP,Nat.reduceLT,Nat.reduceBEq,Int.reduceLT,↓reduceIte,h25,h48,hstep,hw1]
      rw [AB (by decide +kernel)];simp +contextual (maxSteps:=4000000) only[↓bdD,bdP,Nat.reduceBEq]
  ·have e:k=ls.length:=by omega
   subst e
   rw [hc]at hr
   subst hr
   simp +contextual (maxSteps:=4000000) only[↓bdD,bdP,Nat.reduceLT,Nat.reduceBEq,Ar,↓reduceIte,h25]
theorem sJ:V6:=sG sH
structure OKn (hn:Int) (ls:List Lnk):Prop where
 houses : 1≤hn∧hn≤12
 len : ls.length≤60
 ends : ∀k,k<ls.length→0≤(ls.getD k dL).1∧(ls.getD k dL).1<hn∧0≤(ls.getD k dL).2.1∧(ls.getD k dL).2.1<hn∧(ls.getD k dL).1≠(ls.getD k dL).2.1
 hours : ∀k h,k<ls.length→h<24→0≤Fl (ls.getD k dL) h∧Fl (ls.getD k dL) h≤1073741824∧0≤GD (ls.getD k dL) h∧GD (ls.getD k dL) h≤1000000
theorem badH_false {a:Lnk}:∀ {k},GF a k=false↔∀h,h<k→0≤Fl a h∧Fl a h≤1073741824∧0≤GD a h∧GD a h≤1000000
 | 0=>⟨fun _ h g=>absurd g (by omega),fun _=>rfl⟩
 | k+1=>by
  have ih:=@badH_false a k
  simp only[GF,Bool.or_eq_false_iff,ih,decide_eq_false_iff_not]
  constructor
  ·rintro ⟨h1,h2⟩ h hk
   by_cases e:h=k
   ·subst e;omega
   ·exact h1 h (by omega)
  ·intro h
   have := h k (by omega)
   exact ⟨fun i hi=>h i (by omega),by omega⟩
theorem Sf {hn:Int} {ls:List Lnk}:∀ {k},ckT hn ls k=0↔∀i,i<k→PI hn (ls.getD i dL)=0
 | 0=>⟨fun _ h g=>absurd g (by omega),fun _=>rfl⟩
 | k+1=>by
  have ih:=@Sf hn ls k
  simp only[ckT]
  by_cases h:ckT hn ls k=0
  ·rw [if_neg (fun hn=>hn h)]
   constructor
   ·intro hb i hi
    by_cases e:i=k
    ·subst e;exact hb
    ·exact ih.1 h i (by omega)
   ·intro g;exact g k (by omega)
  ·rw [if_pos h]
   exact ⟨fun g=>absurd g h,fun g=>absurd (ih.2 fun i hi=>g i (by omega)) h⟩
theorem check_zero {hn:Int} {ls:List Lnk}:Ek hn ls=0↔OKn hn ls:=by
 unfold Ek
 split
 ·rename_i h
  refine ⟨fun h=>(by cases h),fun g=>?_⟩
  have := g.houses
  have := g.len
  omega
 ·rename_i h
  rw [Sf]
  constructor
  ·intro g
   have key:∀k,k<ls.length→¬(hOK hn (ls.getD k dL).1=false∨hOK hn (ls.getD k dL).2.1=false∨(ls.getD k dL).1=(ls.getD k dL).2.1)∧GF (ls.getD k dL) 24=false:=by
    intro k hk
    have := g k hk
    unfold PI at this
    split at this
    ·cases this
    ·rename_i h1
     refine ⟨h1,?_⟩
     cases hb:GF (ls.getD k dL) 24
     ·rfl
     ·rw [hb]at this;cases this
   refine ⟨by omega,by omega,fun k hk=>?_,fun k h hk hh=>?_⟩
   ·obtain ⟨h1,_⟩:=key k hk
    simp only[hOK,decide_eq_false_iff_not]at h1
    exact ⟨by omega,by omega,by omega,by omega,by omega⟩
   ·exact badH_false.1 (key k hk).2 h hh
  ·intro g k hk
   have h1:=g.ends k hk
   have h2:GF (ls.getD k dL) 24=false:=badH_false.2 fun h hh=>g.hours k h hk hh
   unfold PI
   rw [if_neg (by simp only[hOK,decide_eq_false_iff_not];omega),h2];rfl
end Sim
