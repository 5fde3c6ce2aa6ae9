/- What functions of this seat compute, by values: contracts (lemmas of the statement's proof, under the conditions that each names). -/
import Derived.Test.YtppljhpecoeakaaQK
import Derived.Test.YtppljhpecoeakaaQF10
import Derived.Test.YtppljhpecoeakaaQF9
set_option maxRecDepth 10000
set_option maxHeartbeats 4000000
set_option linter.unusedVariables false
set_option linter.unusedSimpArgs false
namespace Sim
open Go Go.Proofs
attribute [local congr] Am An Ai Aw Ap Ao As
structure GA where
 B : Nat
 A : List Arc
 out : List (List Nat)
 lv : List Int
 u : Nat
 v : Nat
 x : Int
 y : Int
def Mp (x:GA) (st:Store):Prop:=GrAt x.B x.A x.out x.lv st.obj∧x.u<x.out.length∧x.v<x.out.length∧¬x.u=x.v∧x.B+5+x.out.length≤st.next∧x.A.length≤1000000∧x.A.length % 2=0∧(x.out.getD x.u []).length≤1000000∧(x.out.getD x.v []).length≤1000000 ∧ -1000000≤x.y∧x.y≤1000000
def Mq (x:GA):List PV := [gP x.B,I (x.u:Nat),I (x.v:Nat),I x.x,I x.y]
def aO (ob:Nat→Option IObj) (B u v n:Nat) (A:List Arc) (out:List (List Nat)) (lv:List Int):Nat→Option IObj :=
 Aa (Aa (Aa (Aa (Aa ob (B+5+u) (some (.arr (out.getD u []).length 1 (A7 (out.getD u []))))) (B+5+v) (some (.arr (out.getD v []).length 1 (A7 (out.getD v []))))) B (some (.arr 1 1 (El B out)))) (B+4) (some (.arr n 4 (A.map CY)))) (B+2) (some (.arr 0 3 [.agg [.ref (B+4) n 0 A.length,.ref B 1 0 out.length,.ref (B+1) 1 0 lv.length]]))
def Oj (x:GA) (st:Store):PV×Store:=(.tuple [],⟨aO st.obj x.B x.u x.v (x.A.length / 2+1) (EU x.A x.u x.v x.x x.y) (CA x.out x.u x.v x.A.length) x.lv,st.next⟩)
noncomputable def e_add:Nat×Ent:=(77,.x (Bc Mq Mp Oj))
theorem JJ {B u n:Nat} {out:List (List Nat)} (h:u<out.length):(El B out).set u (PV.ref (B+5+u) ((out.getD u []).length+1) 0 ((out.getD u []).length+1))=El B (out.set u (out.getD u [] ++ [n])):=by
 refine List.ext_getElem (by simp[El]) fun i h1 h2=>?_
 rw [List.length_set,DJ]at h1
 rw [List.getElem_set]
 by_cases c:u=i
 ·subst c
  rw [if_pos rfl]
  simp [El,h]
 ·rw [if_neg c]
  simp [El,c]
theorem HX {B u:Nat} {out:List (List Nat)} (h:u<out.length):(El B out).all PV.isInt=false:=by
 cases hh:(El B out).all PV.isInt with
 | false=>rfl
 | true =>
  rw [List.all_eq_true]at hh
  have := hh _ (List.mem_of_getElem? (CN (es:=El B out) (i:=u) (by rw[DJ];exact h)))
  rw [Ee h]at this
  cases this
theorem Ad4:AT Try.prog e_add.1 e_add.2:=Cn fun x st hx=>by
 obtain ⟨B,A,out,lv,u,v,x,y⟩:=x
 obtain ⟨ob,M⟩:=st
 unfold Mp at hx
 dsimp only at hx
 obtain ⟨h1,hu,hv,huv,h4,h8,h9,h10,h11,h12,h13⟩:=hx
 simp only[Mq,Oj]
 have G0:=h1.o0
 have G2:=h1.o2
 have G4:=h1.o4
 have Gu:=h1.o5 u hu
 have Gv:=h1.o5 v hv
 unfold H3 at G2
 obtain ⟨i2,hi2⟩:∃i,i=B+2:=⟨_,rfl⟩
 obtain ⟨i4,hi4⟩:∃i,i=B+4:=⟨_,rfl⟩
 obtain ⟨iu,hiu⟩:∃i,i=B+5+u:=⟨_,rfl⟩
 obtain ⟨iv,hiv⟩:∃i,i=B+5+v:=⟨_,rfl⟩
 have nu:=Ee (B:=B) hu
 have hol:=DJ (B:=B) (out:=out)
 have su:=JJ (B:=B) (n:=A.length) hu
 have sv:=JJ (B:=B) (n:=A.length+1) (out:=out.set u (out.getD u [] ++ [A.length])) (u:=v) (by rw[List.length_set];exact hv)
 have nv:=Ee (B:=B) (out:=out.set u (out.getD u [] ++ [A.length])) (u:=v) (by rw[List.length_set];exact hv)
 have ev:(out.set u (out.getD u [] ++ [A.length])).getD v []=out.getD v []:=by
  rw [List.getD_eq_getElem?_getD,List.getElem?_set_ne huv,List.getD_eq_getElem?_getD]
 rw [ev]at sv nv
 have hol2:(El B (out.set u (out.getD u [] ++ [A.length]))).length=out.length:=by rw[DJ,List.length_set]
 have hO:aO ob B u v (A.length / 2+1) (EU A u v x y) (CA out u v A.length) lv=aO ob B u v (A.length / 2+1) (EU A u v x y) (CA out u v A.length) lv:=rfl
 rw [←hi2,←hi4]at G2
 rw [←hi4]at G4
 rw [←hiu]at Gu nu su
 rw [←hiv]at Gv nv sv
 unfold gP
 rw [←hi2]
 have d1:¬B=i2:=by omega
 have d2:¬B=i4:=by omega
 have d3:¬B=iu:=by omega
 have d4:¬B=iv:=by omega
 have d5:¬i2=B:=by omega
 have d6:¬i2=i4:=by omega
 have d7:¬i2=iu:=by omega
 have d8:¬i2=iv:=by omega
 have d9:¬i4=B:=by omega
 have d10:¬i4=i2:=by omega
 have d11:¬i4=iu:=by omega
 have d12:¬i4=iv:=by omega
 have d13:¬iu=B:=by omega
 have d14:¬iu=iv:=by omega
 have d15:¬iv=B:=by omega
 have d16:¬iv=iu:=by omega
 have d17:¬iu=i2:=by omega
 have d18:¬iv=i2:=by omega
 have d19:¬iu=i4:=by omega
 have d20:¬iv=i4:=by omega
 have wn:IntKind.i64.wrap ((A.length:Int)+1)=((A.length+1:Nat):Int):=BC (by omega)
 have wy:IntKind.i64.wrap (0-y) = -y:=by rw[Ah (by omega) (by omega)];omega
 have k1:=HX (B:=B) hu
 have k2:=HX (B:=B) (out:=out.set u (out.getD u [] ++ [A.length])) (u:=v) (by rw[List.length_set];exact hv)
 have k3:(out.getD u []).length≤2147483647:=by omega
 have k4:(out.getD v []).length≤2147483647:=by omega
 have k5:List.take (out.getD u []).length (A7 (out.getD u []))=A7 (out.getD u []):=List.take_of_length_le (by rw[Cq];exact Nat.le_refl _)
 have k6:List.take (out.getD v []).length (A7 (out.getD v []))=A7 (out.getD v []):=List.take_of_length_le (by rw[Cq];exact Nat.le_refl _)
 have k7:A.length≤2147483646:=by omega
 have k9:¬A.length+2≤A.length:=by omega
 have k8:List.take A.length (A.map CY)=A.map CY:=List.take_of_length_le (by rw[List.length_map];exact Nat.le_refl _)
 refine B7 AV (l := []) (At) [] [700011,700012,700013,700029,700028,700031,700032,700033,700050,700049] 0 Try.func77 rfl (by decide +kernel) (N:=70) rfl (by simp) rfl (by kernel_rfl) ?_
 simp +contextual (maxSteps:=4000000) only[↓bdD,bdP,Nat.reduceLT,Nat.reduceBEq,Ar,Nat.reduceAdd,Nat.reduceMul,Nat.reduceLeDiff,reduceCtorEq,Store.set,↓reduceIte,Try.f77,ty3,Br,AW,Ki,Gz,K1,G0,G2,G4,Gu,Gv,nu,nv,su,sv,hol,hol2,hu,hv,wn,wy,d3,d4,d5,d6,d7,d8,d9,d11,d12,d15,d16,k1,k2,k3,k4,k5,k6,k7,k8,k9,IG,Cq,Nat.mul_one]
 have z1:(CA out u v A.length).getD u []=out.getD u [] ++ [A.length]:=by
  unfold CA
  rw [List.getD_eq_getElem?_getD,List.getElem?_set_ne (fun e=>huv e.symm),List.getElem?_set_self hu];rfl
 have z2:(CA out u v A.length).getD v []=out.getD v [] ++ [A.length+1]:=by
  unfold CA
  rw [List.getD_eq_getElem?_getD,List.getElem?_set_self (by rw[List.length_set];exact hv)];rfl
 have z3:(CA out u v A.length).length=out.length:=by unfold CA;rw[List.length_set,List.length_set]
 have z4:(EU A u v x y).length=A.length+2:=by unfold EU;rw[List.length_append];rfl
 have z5:(EU A u v x y).map CY=A.map CY ++ [.agg [I (u:Nat),I (v:Nat),I x,I y],.agg [I (v:Nat),I (u:Nat),I 0,I (-y)]]:=by unfold EU;rw[List.map_append];rfl
 have z0:((out.set u (out.getD u [] ++ [A.length])).set v (out.getD v [] ++ [A.length+1]))=CA out u v A.length:=rfl
 refine ⟨_,rfl,Left.same rfl (fun i o hi=>?_) (Nat.le_refl _)⟩
 rw [←hi]
 subst hi2 hi4 hiu hiv
 simp only[aO,Aa,z1,z2,z3,z4,z5,JI,List.length_append,List.length_singleton,z0]
 by_cases e1:i=B+2
 ·simp only[if_pos e1]
 ·simp only[if_neg e1]
  by_cases e2:i=B+4
  ·simp only[if_pos e2]
  ·simp only[if_neg e2]
   by_cases e3:i=B
   ·simp only[if_pos e3]
   ·simp only[if_neg e3]
theorem GrAt.same {B:Nat} {A A':List Arc} {out out':List (List Nat)} {lv lv':List Int} {ob:Nat→Option IObj} (g:GrAt B A out lv ob) (g':GrAt B A' out' lv' ob):A=A'∧out=out'∧lv=lv':=by
 have e4:=g.o4.symm.trans g'.o4
 simp only[Option.some.injEq,IObj.arr.injEq,Ma,true_and]at e4
 have e5:=g.o1.symm.trans g'.o1
 simp only[Option.some.injEq,IObj.arr.injEq,true_and]at e5
 have e5:lv=lv':=Fx (fun x y h=>by injection h) e5
 have e0:=g.o2.symm.trans g'.o2
 simp only[H3,Option.some.injEq,IObj.arr.injEq,List.cons.injEq,PV.agg.injEq,PV.ref.injEq,true_and,and_true]at e0
 refine ⟨e4.2,List.ext_getElem e0.2.1 fun u h1 h2=>?_,e5⟩
 have q:=(g.o5 u h1).symm.trans (g'.o5 u h2)
 simp only[Option.some.injEq,IObj.arr.injEq,Mo,true_and]at q
 have q:=q.2
 rwa [List.getD_eq_getElem?_getD,List.getD_eq_getElem?_getD,List.getElem?_eq_getElem h1,List.getElem?_eq_getElem h2]at q
theorem Ad5 (a b:GA) (st:Store) (h:Mq a=Mq b) (hx:Mp a st) (hy:Mp b st):Oj a st=Oj b st:=by
 obtain ⟨B,A,out,lv,u,v,x,y⟩:=a
 obtain ⟨B',A',out',lv',u',v',x',y'⟩:=b
 simp only[Mq,gP,List.cons.injEq,and_true,PV.ptr.injEq,PV.int.injEq,true_and]at h
 have e1:B=B':=by omega
 have e2:u=u':=by omega
 have e3:v=v':=by omega
 obtain ⟨_,_,_,e4,e5⟩:=h
 subst e1;subst e2;subst e3;subst e4;subst e5
 obtain ⟨a1,a2,a3⟩:=GrAt.same hx.1 hy.1
 dsimp only at a1 a2 a3
 subst a1;subst a2;subst a3
 rfl
theorem Ad6 {B u v:Nat} {x y:Int} (A:List Arc) (out:List (List Nat)) (lv:List Int) {st:Store} (h:Mp ⟨B,A,out,lv,u,v,x,y⟩ st):Bc Mq Mp Oj [gP B,I (u:Nat),I (v:Nat),I x,I y] st=some (.tuple [],⟨aO st.obj B u v (A.length / 2+1) (EU A u v x y) (CA out u v A.length) lv,st.next⟩) :=
 Bn Ad5 (i:=⟨B,A,out,lv,u,v,x,y⟩) h
theorem Ad7 {ob:Nat→Option IObj} {B u v:Nat} {x y:Int} {A:List Arc} {out:List (List Nat)} {lv:List Int} (h:GrAt B A out lv ob) (hu:u<out.length) (hv:v<out.length) (huv:¬u=v):GrAt B (EU A u v x y) (CA out u v A.length) lv (aO ob B u v (A.length / 2+1) (EU A u v x y) (CA out u v A.length) lv):=by
 have z3:(CA out u v A.length).length=out.length:=by unfold CA;rw[List.length_set,List.length_set]
 have z4:(EU A u v x y).length=A.length+2:=by unfold EU;rw[List.length_append];rfl
 have z6:(EU A u v x y).length / 2=A.length / 2+1:=by omega
 refine ⟨?_,?_,?_,?_,fun w hw=>?_⟩
 ·simp only[aO,Aa];rw[if_neg (by omega),if_neg (by omega),if_pos trivial]
 ·simp only[aO,Aa];rw[if_neg (by omega),if_neg (by omega),if_neg (by omega),if_neg (by omega),if_neg (by omega)];exact h.o1
 ·simp only[aO,Aa,if_true,H3,z6]
 ·simp only[aO,Aa];rw[if_neg (by omega),if_pos trivial,z6]
 ·rw [z3]at hw
  simp only[aO,Aa]
  rw [if_neg (by omega),if_neg (by omega),if_neg (by omega)]
  by_cases c1:w=v
  ·subst c1;rw[if_pos rfl]
  ·rw [if_neg (by omega)]
   by_cases c2:w=u
   ·subst c2;rw[if_pos rfl]
   ·rw [if_neg (by omega),h.o5 w hw]
    have : (CA out u v A.length).getD w []=out.getD w []:=by
     unfold CA
     rw [List.getD_eq_getElem?_getD,List.getElem?_set_ne (fun e=>c1 e.symm),List.getElem?_set_ne (fun e=>c2 e.symm),List.getD_eq_getElem?_getD]
    rw [this]
end Sim
namespace Sim
open Go Go.Proofs
def IJ (hn:Int) (ls:List Lnk) (us:List Snd) (r:Int):TN :=
 ⟨hn.toNat, ls.length,fun k=>(ls.getD k dL).1.toNat,fun k=>(ls.getD k dL).2.1.toNat,fun k t=>DH ls (k:Int) (r+(t:Int))-Bx us (k:Int) (r+(t:Int)) us.length,fun k t=>ET ls (k:Int) (r+(t:Int))⟩
theorem Vn {hn:Int} {ls:List Lnk} {l:List Snd} (ok:OKr hn ls l) {i:Nat}:∀ {j},i<j→j<l.length→(l.getD i dS).2.1<(l.getD j dS).2.1∨((l.getD i dS).2.1=(l.getD j dS).2.1∧(l.getD i dS).1<(l.getD j dS).1)
 | 0,h,_=>absurd h (by omega)
 | j+1,h,hj=>by
  have := ok.asc (j+1) (by omega) hj
  rw [Nat.add_sub_cancel]at this
  by_cases e:i=j
  ·subst e;exact this
  ·have ih:=Vn ok (i:=i) (j:=j) (by omega) (by omega)
   omega
theorem Qd {hn:Int} {ls:List Lnk} {l:List Snd} (ok:OKr hn ls l) {i j:Nat} (hi:i<l.length) (hj:j<l.length) (h:(l.getD i dS).1=(l.getD j dS).1∧(l.getD i dS).2.1=(l.getD j dS).2.1):i=j:=by
 apply Classical.byContradiction
 intro e
 rcases Nat.lt_or_ge i j with c | c
 ·have := Vn ok c hj;omega
 ·have := Vn ok (i:=j) (j:=i) (by omega) hi;omega
theorem Gf {l:List Snd} {a b:Int}:∀ {n},(∀k,k<n→¬((l.getD k dS).1=a∧(l.getD k dS).2.1=b))→Bx l a b n=0
 | 0,_=>rfl
 | n+1,h=>by rw[Bx,Gf fun k hk=>h k (by omega),if_neg (h n (by omega))];rfl
theorem Ky {l:List Snd} {a b:Int} {i:Nat} (he:(l.getD i dS).1=a∧(l.getD i dS).2.1=b):∀ {n},i<n→(∀k,k<n→((l.getD k dS).1=a∧(l.getD k dS).2.1=b)→k=i)→Bx l a b n=(l.getD i dS).2.2
 | 0,h,_=>absurd h (by omega)
 | n+1,h,g=>by
  rw [Bx]
  by_cases e:i=n
  ·subst e
   rw [Gf fun k hk c=>by have:=g k (by omega) c;omega,if_pos he];omega
  ·rw [Ky he (by omega) fun k hk c=>g k (by omega) c,if_neg fun c=>e (g n (by omega) c).symm];omega
def tkE (s:Snd):PV×PV:=(.agg [I s.1,I s.2.1],I s.2.2)
theorem JK {a b c d:Int}:Do (.agg [I a,I b]) (.agg [I c,I d])=decide (a=c∧b=d):=by
 have hb:∀x y:Int,(x==y)=decide (x=y):=fun x y=>rfl
 simp [Do,Gl,Bool.decide_and,hb]
theorem jD {x:Snd}:∀ {l:List Snd},(∀y∈l,¬(x.1=y.1∧x.2.1=y.2.1))→Ct (l.map tkE) (.agg [I x.1,I x.2.1]) (I x.2.2)=(l ++ [x]).map tkE
 | [],_=>rfl
 | y::l,h=>by
  rw [List.map_cons,Ct,show (tkE y).1=.agg [I y.1,I y.2.1] from rfl,JK,if_neg (by simpa using h y (by simp)),jD fun z hz=>h z (by simp[hz])];rfl
theorem Wx {a b:Int}:∀ {l:List Snd},(∀y∈l,¬(a=y.1∧b=y.2.1))→BP (l.map tkE) (.agg [I a,I b])=none
 | [],_=>rfl
 | y::l,h=>by
  rw [List.map_cons,BP,show (tkE y).1=.agg [I y.1,I y.2.1] from rfl,JK,if_neg (by simpa using h y (by simp)),Wx fun z hz=>h z (by simp[hz])]
theorem Wy {a b:Int}:∀ {l:List Snd} {i:Nat},i<l.length→(a=(l.getD i dS).1∧b=(l.getD i dS).2.1)→(∀j,j<i→¬(a=(l.getD j dS).1∧b=(l.getD j dS).2.1))→BP (l.map tkE) (.agg [I a,I b])=some (I (l.getD i dS).2.2)
 | [],i,h,_,_=>absurd h (by simp)
 | y::l,0,h,e,g=>by
  rw [List.map_cons,BP,show (tkE y).1=.agg [I y.1,I y.2.1] from rfl,JK,if_pos (by simpa using e)];rfl
 | y::l,i+1,h,e,g=>by
  rw [List.map_cons,BP,show (tkE y).1=.agg [I y.1,I y.2.1] from rfl,JK,if_neg (by simpa using g 0 (by omega))]
  exact Wy (l:=l) (i:=i) (by simpa using h) e fun j hj=>g (j+1) (by omega)
theorem Vo {hn:Int} {ls:List Lnk} {l:List Snd} (ok:OKr hn ls l) {a b:Int}:(BP (l.map tkE) (.agg [I a,I b])).getD (I 0)=I (Bx l a b l.length):=by
 by_cases c:∃i,i<l.length∧((l.getD i dS).1=a∧(l.getD i dS).2.1=b)
 ·obtain ⟨i,hi,e1,e2⟩:=c
  rw [Wy hi ⟨e1.symm,e2.symm⟩ (fun j hj g=>by have:=Qd ok (i:=j) (j:=i) (by omega) hi ⟨g.1.symm.trans e1.symm,g.2.symm.trans e2.symm⟩;omega),
   Ky ⟨e1,e2⟩ hi fun k hk g=>Qd ok hk hi ⟨g.1.trans e1.symm,g.2.trans e2.symm⟩];rfl
 ·rw [Gf fun k hk g=>c ⟨k,hk,g⟩,Wx fun y hy g=>by
   obtain ⟨i,hi,he⟩:=List.mem_iff_getElem.1 hy
   exact c ⟨i,hi,by simp[hi,he,g.1],by simp[hi,he,g.2]⟩];rfl
theorem Qe {hn:Int} {ls:List Lnk} {l:List Snd} (ok:OKr hn ls l) {k:Nat} (hk:k<l.length):Ct ((l.take k).map tkE) (.agg [I (l.getD k dS).1,I (l.getD k dS).2.1]) (I (l.getD k dS).2.2)=(l.take (k+1)).map tkE:=by
 rw [jD fun y hy g=>by
  obtain ⟨i,hi,he⟩:=List.mem_iff_getElem.1 hy
  rw [List.length_take]at hi
  have hil:i<l.length:=by omega
  have e:l.getD i dS=y:=by rw[←he];simp[hil]
  have := Qd ok (i:=i) (j:=k) hil hk ⟨by rw[e];exact g.1.symm,by rw[e];exact g.2.symm⟩
  omega, List.take_succ_eq_append_getElem hk]
 congr 2
 simp [hk]
theorem FH {a b:Int} (h1 : -9223372036854775808≤a∧a≤9223372036854775807) (h2 : -9223372036854775808≤b∧b≤9223372036854775807):BA (.ints 2) (.agg [I a,I b])=true:=by
 simp [BA,H7,h1,h2]
theorem SD {ls:List Lnk} {l:List Snd}:∀ {k},ftT ls l k=false→∀i,i<k→(l.getD i dS).2.2≤DH ls (l.getD i dS).1 (l.getD i dS).2.1
 | 0,_,i,hi=>absurd hi (by omega)
 | k+1,h,i,hi=>by
  simp only[ftT,Bool.or_eq_false_iff,decide_eq_false_iff_not]at h
  by_cases e:i=k
  ·subst e;omega
  ·exact SD h.1 i (by omega)
theorem Ch {hn:Int} {ls:List Lnk} {l:List Snd} (h:BZ hn ls l=0):OKr hn ls l∧∀i,i<l.length→(l.getD i dS).2.2≤DH ls (l.getD i dS).1 (l.getD i dS).2.1:=by
 unfold BZ at h
 split at h
 ·contradiction
 ·rename_i h1
  split at h
  ·cases h
  ·rename_i h2
   exact ⟨right_zero.1 (Classical.not_not.1 h1),SD (by simpa using h2)⟩
theorem FI {hn:Int} {ls:List Lnk} {l:List Snd} (h:BZ hn ls l=0) {k t:Int} (hk:0≤k∧k<(ls.length:Int)):0≤Bx l k t l.length∧Bx l k t l.length≤DH ls k t:=by
 obtain ⟨ok,hf⟩:=Ch h
 have hc:=Fc ok.net hk.1 hk.2 (tick:=t)
 by_cases c:∃i,i<l.length∧((l.getD i dS).1=k∧(l.getD i dS).2.1=t)
 ·obtain ⟨i,hi,e1,e2⟩:=c
  rw [Ky ⟨e1,e2⟩ hi fun j hj g=>Qd ok hj hi ⟨g.1.trans e1.symm,g.2.trans e2.symm⟩]
  have := hf i hi
  rw [e1,e2]at this
  exact ⟨by have:=ok.bytes i hi;omega,this⟩
 ·rw [Gf fun j hj g=>c ⟨j,hj,g⟩]
  omega
theorem Di {hn:Int} {ls:List Lnk} {us:List Snd} {r:Int} {D:Nat} (h:BZ hn ls us=0):(IJ hn ls us r).OK D:=by
 obtain ⟨ok,_⟩:=Ch h
 have hh:=ok.net.houses
 refine ⟨by show 0<hn.toNat;omega,fun k hk=>?_,fun k t hk _=>?_,fun k t hk _=>?_⟩
 ·have := ok.net.ends k hk
  show (ls.getD k dL).1.toNat<hn.toNat∧(ls.getD k dL).2.1.toNat<hn.toNat
  omega
 ·have hk':k<ls.length:=hk
  have := FI h (k:=(k:Int)) (t:=r+(t:Int)) ⟨by omega,by omega⟩
  show 0≤DH ls (k:Int) (r+(t:Int))-Bx us (k:Int) (r+(t:Int)) us.length
  omega
 ·have hk':k<ls.length:=hk
  exact Jz ok.net (by omega) (by omega)
end Sim
