/- What functions of this seat compute, by values: contracts (lemmas of the statement's proof, under the conditions that each names). -/
import Derived.Test.YtppljhpecoeakaaQH
set_option maxRecDepth 10000
set_option maxHeartbeats 4000000
set_option linter.unusedVariables false
set_option linter.unusedSimpArgs false
namespace Sim
open Go Go.Proofs
attribute [local congr] Ap Aq Al AC As Ar Av
theorem TB {A:List Arc} {lv:List Int} {d:Int}:∀ {l:List Nat} {st:DS},(FF A l).foldl (rlx A lv d) st=l.foldl (rlx A lv d) st
 | [],st=>rfl
 | k::l,st=>by
  have ih:=fun st=>TB (A:=A) (lv:=lv) (d:=d) (l:=l) (st:=st)
  unfold FF at ih ⊢
  by_cases c:0<aL A k
  ·rw [List.filter_cons_of_pos (by simpa using c),List.foldl_cons,List.foldl_cons,ih]
  ·rw [List.filter_cons_of_neg (by simpa using c),List.foldl_cons,ih]
   congr 1
   unfold rlx
   rw [if_neg (fun h=>c h.1)]
def QN (x:Nat×Nat):List PV := [gP x.1,I (x.2:Nat)]
def Wr (x:Nat×Nat) (st:Store):PV×Store:=(.func (.func 86) [] [.vptr [gP x.1] 0,.vptr [I (x.2:Nat)] 0],st)
noncomputable def e_open:Nat×Ent:=(83,.x (Be QN (fun _ _=>True) Wr))
theorem Aea {B u:Nat} {st:Store}:Be QN (fun _ _=>True) Wr [gP B,I (u:Nat)] st=some (.func (.func 86) [] [.vptr [gP B] 0,.vptr [I (u:Nat)] 0],st) :=
 Bq (fun x y st h _ _=>by
  obtain ⟨a,b⟩:=x
  obtain ⟨c,d⟩:=y
  simp only[QN,gP,List.cons.injEq,and_true,PV.ptr.injEq,PV.int.injEq,true_and]at h
  have e1:a=c:=by omega
  have e2:b=d:=by omega
  subst e1;subst e2;rfl) (i:=(B,u)) trivial
theorem Aeb:AM Try.prog e_open.1 e_open.2:=Cx fun x st _=>by
 obtain ⟨B,u⟩:=x
 obtain ⟨ob,M⟩:=st
 simp only[QN,Wr]
 refine Ch AP (l := []) (Ao) [] [] 0 Try.func83 rfl (by decide +kernel) (N:=6) rfl (by simp) rfl (by kernel_rfl) ?_
 simp +contextual (maxSteps:=4000000) only[↓bdD,bdP,Nat.reduceLT,Nat.reduceBEq,Ai,↓reduceIte,Try.f83]
 exact Left.refl
def HD (N k:Nat):List Int:=List.replicate k (-1)++List.replicate (N-k) 0
theorem XE {N:Nat}:HD N 0=List.replicate N 0:=by simp[HD]
theorem yT {N:Nat}:HD N N=List.replicate N (-1):=by simp[HD]
theorem bM {N k:Nat} (h:k≤N):(HD N k).length=N:=by simp[HD];omega
theorem bN {N k:Nat} (h:k<N):(HD N k).set k (-1)=HD N (k+1):=by
 unfold HD
 obtain ⟨m,hm⟩:∃m,N-k=m+1:=⟨N-k-1,by omega⟩
 rw [List.set_append,if_neg (by simp),List.length_replicate,Nat.sub_self,hm,List.replicate_succ,List.set_cons_zero,show N-(k+1)=m by omega,List.replicate_succ',List.append_assoc]
 rfl
structure PB (ob:Nat→Option IObj) (M N:Nat) (far last:List Int) (O:Nat→Option IObj):Prop where
 e0 : O M=some (.arr 0 1 (far.map (PV.int .i64)))
 e1 : O (M+1)=some (.arr 0 1 [.ref M 0 0 N])
 e2 : O (M+2)=some (.arr 0 1 (last.map (PV.int .i64)))
 e3 : O (M+3)=some (.arr 0 1 [.ref (M+2) 0 0 N])
 fr : ∀i o,ob i=some o→O i=some o
structure PM (ob:Nat→Option IObj) (M N:Nat) (st:DS) (g:Nat) (tl:List It) (O:Nat→Option IObj):Prop where
 pb : PB ob M N st.far st.last O
 e4 : O (M+4)=some (.arr 0 1 (st.done.map PV.bool))
 e5 : O (M+5)=some (.arr g 2 ((st.q++tl).map itV))
 e6 : O (M+6)=some (.arr 0 1 [.ref (M+5) g 0 st.q.length])
 e7 : O (M+7)=some (.arr 0 1 [.ptr (M+6) 0 0 0])
theorem PM.hp {ob:Nat→Option IObj} {M N:Nat} {st:DS} {g:Nat} {tl:List It} {O:Nat→Option IObj} (h:PM ob M N st g tl O) (r0:∀i o,ob i=some o→i<M) (g':Nat) (q' tl':List It):PM ob M N ⟨st.far,st.last,st.done,q'⟩ g' tl' (hpO O (M+6) 0 (M+5) g' q' tl'):=by
 have b0:=h.pb.e0
 have b1:=h.pb.e1
 have b2:=h.pb.e2
 have b3:=h.pb.e3
 refine ⟨⟨?_,?_,?_,?_,fun i o hi=>?_⟩,?_,?_,?_,?_⟩
 ·simp [hpO,Aa,b0]
 ·simp [hpO,Aa,b1]
 ·simp [hpO,Aa,b2]
 ·simp [hpO,Aa,b3]
 ·have := r0 i o hi
  simp only[hpO,Aa]
  rw [if_neg (by omega),if_neg (by omega),h.pb.fr i o hi]
 ·simp [hpO,Aa,h.e4]
 ·simp [hpO,Aa]
 ·simp [hpO,Aa]
 ·simp [hpO,Aa,h.e7]
theorem PM.high {ob:Nat→Option IObj} {M N:Nat} {st:DS} {g:Nat} {tl:List It} {O:Nat→Option IObj} (h:PM ob M N st g tl O) (r0:∀i o,ob i=some o→i<M) {n:Nat} {x:Option IObj} (hn:M+8≤n):PM ob M N st g tl (Aa O n x):=by
 have key:∀i,i<M+8→Aa O n x i=O i:=fun i hi=>by simp only[Aa];rw[if_neg (by omega)]
 exact ⟨⟨by rw[key _ (by omega)];exact h.pb.e0,by rw[key _ (by omega)];exact h.pb.e1,by rw[key _ (by omega)];exact h.pb.e2,by rw[key _ (by omega)];exact h.pb.e3,fun i o hi=>by have:=r0 i o hi;rw[key _ (by omega)];exact h.pb.fr i o hi⟩,
  by rw[key _ (by omega)];exact h.e4,by rw[key _ (by omega)];exact h.e5,by rw[key _ (by omega)];exact h.e6,by rw[key _ (by omega)];exact h.e7⟩
theorem PM.doneS {ob:Nat→Option IObj} {M N:Nat} {st:DS} {g:Nat} {tl:List It} {O:Nat→Option IObj} (h:PM ob M N st g tl O) (r0:∀i o,ob i=some o→i<M) (dn:List Bool):PM ob M N ⟨st.far,st.last,dn,st.q⟩ g tl (Aa O (M+4) (some (.arr 0 1 (dn.map PV.bool)))):=by
 have b0:=h.pb.e0
 have b1:=h.pb.e1
 have b2:=h.pb.e2
 have b3:=h.pb.e3
 refine ⟨⟨?_,?_,?_,?_,fun i o hi=>?_⟩,?_,?_,?_,?_⟩
 ·simp [Aa,b0]
 ·simp [Aa,b1]
 ·simp [Aa,b2]
 ·simp [Aa,b3]
 ·have := r0 i o hi
  simp only[Aa]
  rw [if_neg (by omega),h.pb.fr i o hi]
 ·simp [Aa]
 ·simp [Aa,h.e5]
 ·simp [Aa,h.e6]
 ·simp [Aa,h.e7]
theorem PM.farS {ob:Nat→Option IObj} {M N:Nat} {st:DS} {g:Nat} {tl:List It} {O:Nat→Option IObj} (h:PM ob M N st g tl O) (r0:∀i o,ob i=some o→i<M) (fa la:List Int):PM ob M N ⟨fa,la,st.done,st.q⟩ g tl (Aa (Aa O M (some (.arr 0 1 (fa.map (PV.int .i64))))) (M+2) (some (.arr 0 1 (la.map (PV.int .i64))))):=by
 have b1:=h.pb.e1
 have b3:=h.pb.e3
 refine ⟨⟨?_,?_,?_,?_,fun i o hi=>?_⟩,?_,?_,?_,?_⟩
 ·simp [Aa]
 ·simp [Aa,b1]
 ·simp [Aa]
 ·simp [Aa,b3]
 ·have := r0 i o hi
  simp only[Aa]
  rw [if_neg (by omega),if_neg (by omega),h.pb.fr i o hi]
 ·simp [Aa,h.e4]
 ·simp [Aa,h.e5]
 ·simp [Aa,h.e6]
 ·simp [Aa,h.e7]
theorem PM.lpS {ob:Nat→Option IObj} {M N:Nat} {st:DS} {g:Nat} {tl:List It} {O:Nat→Option IObj} (h:PM ob M N st g tl O) (hl:∀i r,ob i≠some (.lp r)) {id:Nat} {r r':Loop} (hid:O id=some (.lp r)):PM ob M N st g tl (Aa O id (some (.lp r'))):=by
 have key:∀ {i o},O i=some o→(∀r,o≠.lp r)→Aa O id (some (.lp r')) i=some o:=fun {i o} hi hr=>by
  simp only[Aa]
  rw [if_neg (fun e=>by rw[e,hid]at hi;cases hi;exact hr r rfl),hi]
 exact ⟨⟨key h.pb.e0 (by simp),key h.pb.e1 (by simp),key h.pb.e2 (by simp),key h.pb.e3 (by simp),fun i o hi=>key (h.pb.fr i o hi) fun r e=>hl i r (by rw[hi,e])⟩,
  key h.e4 (by simp),key h.e5 (by simp),key h.e6 (by simp),key h.e7 (by simp)⟩
theorem PM.later {ob:Nat→Option IObj} {M N:Nat} {st:DS} {g:Nat} {tl:List It} {S S':Store} (h:PM ob M N st g tl S.obj) (r0:∀i o,ob i=some o→i<M) (hl:∀i r,ob i≠some (.lp r)) (hn:M+8≤S.next) (hL:Later S S'):PM ob M N st g tl S'.obj:=by
 have key:∀ {i o},S.obj i=some o→i<M+8→(∀r,o≠.lp r)→S'.obj i=some o:=fun {i o} hi hlt hr=>hL.2 i o (by omega) hi hr
 exact ⟨⟨key h.pb.e0 (by omega) (by simp),key h.pb.e1 (by omega) (by simp),key h.pb.e2 (by omega) (by simp),key h.pb.e3 (by omega) (by simp),fun i o hi=>key (h.pb.fr i o hi) (by have:=r0 i o hi;omega) fun r e=>hl i r (by rw[hi,e])⟩,
  key h.e4 (by omega) (by simp),key h.e5 (by omega) (by simp),key h.e6 (by omega) (by simp),key h.e7 (by omega) (by simp)⟩
theorem GrAt.of {B:Nat} {A:List Arc} {out:List (List Nat)} {lv:List Int} {ob O:Nat→Option IObj} (h:GrAt B A out lv ob) (fr:∀i o,ob i=some o→O i=some o):GrAt B A out lv O :=
 ⟨fr _ _ h.o0,fr _ _ h.o1,fr _ _ h.o2,fr _ _ h.o4,fun u hu=>fr _ _ (h.o5 u hu)⟩
def stI (A:List Arc) (lv:List Int) (st:DS) (l:List Nat) (i:Nat):DS:=((FF A l).take i).foldl (rlx A lv (Bb st.q).1) (ID st)
theorem mY {A:List Arc} {lv:List Int} {st:DS} {l:List Nat} {i k:Nat} (h:(FF A l)[i]?=some k):stI A lv st l (i+1)=rlx A lv (Bb st.q).1 (stI A lv st l i) k:=by
 unfold stI
 obtain ⟨hi,he⟩:=List.getElem?_eq_some_iff.1 h
 rw [List.take_succ_eq_append_getElem hi,List.foldl_append,he]
 rfl
theorem Ig {ob:Nat→Option IObj} {i:Nat} {o:IObj} (h:ob i=some o):Aa ob i (some o)=ob:=by
 funext j
 simp only[Aa]
 by_cases c:j=i
 ·rw [if_pos c,c,h]
 ·rw [if_neg c]
def lvK (lv:List Int) (st:DS) (N j:Nat):List Int:=(List.range N).map fun v=>if v<j∧st.done.getD v true=true then lv.getD v 0+st.far.getD v 0 else lv.getD v 0
theorem Dp {lv:List Int} {st:DS} {N j:Nat}:(lvK lv st N j).length=N:=by simp[lvK]
theorem I7 {lv:List Int} {st:DS} {N j v:Nat} (h:v<N):(lvK lv st N j).getD v 0=if v<j∧st.done.getD v true=true then lv.getD v 0+st.far.getD v 0 else lv.getD v 0:=by
 simp [lvK,h]
theorem yU {l m:List Int} (h:l.length=m.length) (g:∀v,v<l.length→l.getD v 0=m.getD v 0):l=m:=by
 refine List.ext_getElem h fun i h1 h2=>?_
 have := g i h1
 rwa [List.getD_eq_getElem?_getD,List.getD_eq_getElem?_getD,List.getElem?_eq_getElem h1,List.getElem?_eq_getElem h2]at this
theorem Ahx {lv:List Int} {st:DS} {N:Nat} (h:lv.length=N):lvK lv st N 0=lv :=
 yU (by rw[Dp,h]) fun v hv=>by rw[Dp]at hv;rw[I7 hv,if_neg (by omega)]
theorem Ahy {lv:List Int} {st:DS} {N:Nat}:lvK lv st N N=lvN lv st N :=
 yU (by rw[Dp];simp[lvN]) fun v hv=>by
  rw [Dp]at hv
  rw [I7 hv,Mw hv]
  simp [hv]
theorem mZ {lv:List Int} {st:DS} {N j:Nat} (h:¬st.done.getD j true=true):lvK lv st N (j+1)=lvK lv st N j :=
 yU (by rw[Dp,Dp]) fun v hv=>by
  rw [Dp]at hv
  rw [I7 hv,I7 hv]
  by_cases c:v=j
  ·subst c;rw[if_neg (fun g=>h g.2),if_neg (fun g=>h g.2)]
  ·by_cases c2:v<j
   ·simp only[c2,show v<j+1 by omega]
   ·simp only[c2,show ¬v<j+1 by omega]
theorem nA {lv:List Int} {st:DS} {N j:Nat} (hj:j<N) (h:st.done.getD j true=true):(lvK lv st N j).set j (lv.getD j 0+st.far.getD j 0)=lvK lv st N (j+1) :=
 yU (by rw[List.length_set,Dp,Dp]) fun v hv=>by
  rw [List.length_set,Dp]at hv
  rw [C7 (by rw[Dp];exact hj),I7 hv,I7 hv]
  by_cases c:v=j
  ·subst c;rw[if_pos rfl,if_pos ⟨by omega,h⟩]
  ·rw [if_neg c]
   by_cases c2:v<j
   ·simp only[c2,show v<j+1 by omega]
   ·simp only[c2,show ¬v<j+1 by omega]
theorem PM.level {ob:Nat→Option IObj} {M N:Nat} {st:DS} {g:Nat} {tl:List It} {O:Nat→Option IObj} (h:PM ob M N st g tl O) {i:Nat} (hi:i<M) (x y:Option IObj) (e:ob=Aa ob i y):PM (Aa ob i x) M N st g tl (Aa O i x):=by
 have key:∀j,M≤j→Aa O i x j=O j:=fun j hj=>by simp only[Aa];rw[if_neg (by omega)]
 refine ⟨⟨by rw[key _ (by omega)];exact h.pb.e0,by rw[key _ (by omega)];exact h.pb.e1,by rw[key _ (by omega)];exact h.pb.e2,by rw[key _ (by omega)];exact h.pb.e3,fun j o hj=>?_⟩,
  by rw[key _ (by omega)];exact h.e4,by rw[key _ (by omega)];exact h.e5,by rw[key _ (by omega)];exact h.e6,by rw[key _ (by omega)];exact h.e7⟩
 simp only[Aa]at hj ⊢
 by_cases c:j=i
 ·rw [if_pos c]at hj ⊢;exact hj
 ·rw [if_neg c]at hj ⊢;exact h.pb.fr j o hj
theorem nB {l:List Nat}:AN (Ba l)=true:=H2 fun x=>Ft _ _
theorem J9 {l:List Nat} {k:Nat}:Ba (l ++ [k])=Ba l ++ [I (k:Nat)]:=by simp[Ba]
theorem KT {l:List Bool} {k:Nat} (h:k<l.length):nth (l.map PV.bool) k=.bool (l.getD k true):=DQ true h
structure GP where
 B : Nat
 A : List Arc
 out : List (List Nat)
 lv : List Int
 s : Nat
 t : Nat
def KU (x:GP) (st:Store):Prop:=GrAt x.B x.A x.out x.lv st.obj∧Gr x.A x.out x.lv x.lv.length x.s∧x.t<x.lv.length∧¬x.t=x.s∧x.B+5+x.lv.length≤st.next∧WF st∧(∀i r,st.obj i≠some (.lp r)) ∧
 x.lv.length ≤ 100000∧x.A.length≤1000000∧(∀v,-1000000000000≤x.lv.getD v 0∧x.lv.getD v 0≤1000000000000)∧EB x.out (ini x.lv.length x.s)≤100000000
def KV (x:GP):List PV := [gP x.B,I (x.s:Nat),I (x.t:Nat)]
def HE (x:GP) (st:Store):PV×Store :=
 if (FV x.A x.out x.lv x.lv.length x.s).done.getD x.t true=true then (.lits 1 (Ba (CJ x.A x.out x.lv x.lv.length x.s x.t)),⟨Aa st.obj (x.B+1) (some (.arr 1 1 ((lvM x.A x.out x.lv x.lv.length x.s).map (PV.int .i64)))),st.next⟩)else (.nils,st)
noncomputable def e_path:Nat×Ent:=(78,.x (Be KV KU HE))
theorem Aec:AM Try.prog e_path.1 e_path.2:=FS fun x st hx=>by
 obtain ⟨B,A,out,lv,s,t⟩:=x
 obtain ⟨ob,M⟩:=st
 unfold KU at hx
 dsimp only at hx
 obtain ⟨h1,h2,h3,h3',h4,h5,h6,h7,h8,h9,h10⟩:=hx
 obtain ⟨N,hN⟩:∃N,lv.length=N:=⟨_,rfl⟩
 have a0:=h1.o0
 have a1:=h1.o1
 have a2:=h1.o2
 have a4:=h1.o4
 unfold Ir at a2
 have lo:=h2.lo
 have sN:=h2.sN
 simp only[KV,HE]
 rw [hN]at h2 h3 h4 h7 h10 a2 lo sN ⊢
 rw [lo]at a2
 have hol:=DV (B:=B) (out:=out)
 generalize hR:(if (FV A out lv N s).done.getD t true=true then ((.lits 1 (Ba (CJ A out lv N s t)),⟨Aa ob (B+1) (some (.arr 1 1 ((lvM A out lv N s).map (PV.int .i64)))),M⟩):PV×Store)else (.nils,⟨ob,M⟩))=R
 have r0:∀i o,ob i=some o→i<M:=h5
 obtain ⟨g1,hg1⟩:∃g,g=B+1:=⟨_,rfl⟩
 obtain ⟨g2,hg2⟩:∃g,g=B+2:=⟨_,rfl⟩
 obtain ⟨g4,hg4⟩:∃g,g=B+4:=⟨_,rfl⟩
 rw [←hg1,←hg2,←hg4]at a2
 rw [←hg1]at a1
 rw [←hg4]at a4
 unfold gP
 rw [←hg2]
 have n0:∀k,¬B=M+k:=fun k=>by omega
 have n1:∀k,¬g1=M+k:=fun k=>by omega
 have n2:∀k,¬g2=M+k:=fun k=>by omega
 have n4:∀k,¬g4=M+k:=fun k=>by omega
 have m0:=n0 0
 have m1:=n1 0
 have m2:=n2 0
 have m4:=n4 0
 rw [Nat.add_zero]at m0 m1 m2 m4
 have p1:M+1+1=M+2:=rfl
 have p2:M+2+1=M+3:=rfl
 have p3:M+3+1=M+4:=rfl
 have p4:M+4+1=M+5:=rfl
 have p5:M+5+1=M+6:=rfl
 have p6:M+6+1=M+7:=rfl
 have p7:M+7+1=M+8:=rfl
 have q1:¬M=M+1:=by omega
 have q2:¬M=M+2:=by omega
 have q3:¬M=M+3:=by omega
 have q4:¬M=M+4:=by omega
 have q5:¬M=M+5:=by omega
 have q6:¬M=M+6:=by omega
 have q7:¬M=M+7:=by omega
 have t1:¬M+1=M:=by omega
 have t2:¬M+2=M:=by omega
 have t3:¬M+3=M:=by omega
 have t4:¬M+4=M:=by omega
 have t5:¬M+5=M:=by omega
 have t6:¬M+6=M:=by omega
 have t7:¬M+7=M:=by omega
 have hNi:(N:Int)≤4294967296:=by omega
 refine Ch AP (l := [e_open,e_hpush,e_hpop,e_qlen]) ((Ae Aeb (Ae yR (Ae Ad7 (Ae Wp Ao))))) [54,55] [700038,800040,700127,700128,700129,800132] 1 Try.func78 rfl (by decide +kernel) (N:=193) rfl (by simp) rfl (by kernel_rfl) ?_
 simp +contextual (maxSteps:=4000000) only[↓bdD,bdP,Nat.reduceLT,Nat.reduceBEq,Nat.reduceAdd,Nat.reduceLeDiff,reduceCtorEq,Store.new,Store.set,↓reduceIte,Nat.reduceBeqDiff,e_open,e_hpush,e_hpop,e_qlen,Try.f78,ty3,Bf,AZ,JL,GV,a0,a2,n0,n2,m0,m2,p1,p2,p3,q1,q2,q3,hNi]
 refine Ax [9,33,34,35,36,37,38,39,40,41,42] N (fun k ρ st'=>ρ 33=I k∧∃O,st'=⟨O,M+4⟩∧PB ob M N (HD N k) (HD N k) O) (.refl _) ?_ ?_
 ·simp +contextual (maxSteps:=4000000) only[↓bdD,bdP]
  refine ⟨_,rfl,⟨?_,?_,?_,?_,fun i o hi=>?_⟩⟩
  ·simp [Aa,XE]
  ·simp [Aa]
  ·simp [Aa,XE]
  ·simp [Aa]
  ·have := r0 i o hi
   simp only[Aa]
   rw [if_neg (by omega),if_neg (by omega),if_neg (by omega),if_neg (by omega),if_neg (by omega),if_neg (by omega),hi]
 rintro k ρ st' hk ⟨h33,O,rfl,hO⟩
 have e0:=hO.e0
 have e1:=hO.e1
 have e2:=hO.e2
 have e3:=hO.e3
 have fr:=hO.fr
 by_cases hlt:k<N
 ·have hwk:=BF (k:=k) (by omega)
  have hfl:=bM hk
  have hst:=bN hlt
  simp +contextual (maxSteps:=4000000) only[↓bdD,bdP,Nat.reduceLT,Nat.reduceBEq,Nat.reduceAdd,Nat.reduceLeDiff,reduceCtorEq,Store.set,↓reduceIte,ty3,AZ,e0,e1,e2,e3,h33,hlt,hwk,hfl,hst,t2]
  refine ⟨_,rfl,⟨?_,?_,?_,?_,fun i o hi=>?_⟩⟩
  ·simp [Aa]
  ·simp [Aa,e1]
  ·simp [Aa]
  ·simp [Aa,e3]
  ·have := r0 i o hi
   simp only[Aa]
   rw [if_neg (by omega),if_neg (by omega),fr i o hi]
 have e:N=k:=by omega
 subst e
 rw [yT]at e0 e2
 clear hO hk hlt
 have f0:=fr _ _ a0
 have f1:=fr _ _ a1
 have f2:=fr _ _ a2
 have f4:=fr _ _ a4
 have x1:(List.replicate N (-1:Int)).length=N:=List.length_replicate
 have hset:(List.replicate N (-1:Int)).set s 0=(ini N s).far:=rfl
 simp +contextual (maxSteps:=4000000) only[↓bdD,bdP,Nat.reduceLT,Nat.reduceBEq,Nat.reduceAdd,Nat.reduceMul,Nat.reduceLeDiff,reduceCtorEq,Store.new,Store.set,↓reduceIte,Nat.reduceBeqDiff,ty3,ty4,Bf,AZ,JL,GV,Mt,DD,Hr,Dg,f0,f2,x1,hset,e0,e1,h33,sN,p4,p5,p6,p7,q3,q4,hNi,Dg,DD]
 obtain ⟨m00,hm00⟩:∃m,EB out (ini N s)=m:=⟨_,rfl⟩
 refine CS [12,13,14,15,56,57,58,59,60,61,62,63,64,65,66,67,68,69,70,71,72,73,74,75,76,77,79,80,81,82,83,84,85,86,87,88,89,90,91,92,93,94,95,96,97,98,99,100,101,102,103,104,105,106,107,108,109,110,111,112,113,114,115,116,117,118,119,120,121,122,123,124,125,126,127,128,129,130,131,132,133,134,135,136,137,138,139,140,141] m00 (fun m ρ st'=>∃O nx st d dp g tl,st'=⟨O,nx⟩∧M+8≤nx∧PM ob M N st g tl O∧DI A lv N s st d (fun _=>True) dp∧EB out st=m∧Iq A out lv m st=FV A out lv N s∧st.q.length+tl.length≤m00∧m≤m00) (.refl _) ?_ ?_
 ·simp +contextual (maxSteps:=4000000) only[↓bdD,bdP]
  refine ⟨_,_,ini N s,0,_,0,[],rfl,Nat.le_refl _,⟨⟨?_,?_,?_,?_,fun i o hi=>?_⟩,?_,?_,?_,?_⟩,kH h2,hm00,by rw[←hm00];rfl,?_⟩
  ·simp [Aa]
  ·simp [Aa,e1]
  ·simp [Aa,ini,e2]
  ·simp [Aa,e3]
  ·have := r0 i o hi
   simp only[Aa]
   rw [if_neg (by omega),if_neg (by omega),if_neg (by omega),if_neg (by omega),if_neg (by omega),if_neg (by omega),fr i o hi]
  ·simp [Aa,ini]
  ·simp [Aa,ini]
  ·simp [Aa,ini]
  ·simp [Aa,A6]
  ·rw [←hm00];simp[ini,EB]
 clear fr e0 e1 e2 e3 f0 f1 f2 f4 hset x1 O h33
 rintro m ρ2 st' ⟨O,nx,st,d,dp,g,tl,rfl,hnx,hO,hD,hm,hrun,hlen,hmm⟩
 have e0:=hO.pb.e0
 have e1:=hO.pb.e1
 have e2:=hO.pb.e2
 have e3:=hO.pb.e3
 have fr:=hO.pb.fr
 have e4:=hO.e4
 have e5:=hO.e5
 have e6:=hO.e6
 have e7:=hO.e7
 have f0:=fr _ _ a0
 have f1:=fr _ _ a1
 have f2:=fr _ _ a2
 have f4:=fr _ _ a4
 have sl:=Wq (aid:=M+5) (g:=g) (n:=st.q.length) (st.q++tl) (st:=⟨O,nx⟩) ⟨e5,by dsimp only;rw[List.length_append];omega,by dsimp only;rw[List.length_append];omega⟩
 by_cases hq:0<st.q.length
 ·have hqi:(0:Int)<(st.q.length:Int):=by omega
  have spop:=Ad8 (ob:=O) (M:=nx) (qid:=M+6) (qg:=0) (aid:=M+5) (g:=g) (q:=st.q) (tl:=tl) ⟨⟨e6,e5,by dsimp only;rw[List.length_append];omega,by dsimp only;omega,by dsimp only;omega⟩,hq⟩
  have hO2:=(hO.high r0 (n:=nx) (x:=none) hnx).hp r0 g (EA st.q) ((D0 st.q).drop (st.q.length-1)++tl)
  obtain ⟨i1,hi1⟩:∃i,i=nx+1:=⟨_,rfl⟩
  rw [←hi1]at spop
  generalize hpO (Aa O nx none) (M+6) 0 (M+5) g (EA st.q) ((D0 st.q).drop (st.q.length-1)++tl)=O2 at *
  obtain ⟨v1,v2,v3,v4,v5⟩:=Qm hD hq
  have i4:=hO2.e4
  dsimp only at i4
  have hnd:=KT (l:=st.done) (k:=(Bb st.q).2) (by rw[hD.ld];exact v1)
  have hdl:=hD.ld
  have hN1:∀k,k<8→¬M+k=i1:=fun k hk=>by omega
  have hN4:=hN1 4 (by omega)
  have hN7:=hN1 7 (by omega)
  have hM4:¬i1=M+4:=by omega
  obtain ⟨⟨d',dp',hD'⟩,hms⟩:=Qn h2 hD hq
  have hrun':Iq A out lv (EB out (En A out lv st)) (En A out lv st)=FV A out lv N s:=by
   obtain ⟨k1,rfl⟩:∃k,m=k+1:=⟨m-1,by omega⟩
   rw [←hrun]
   simp only[Iq]
   rw [if_neg (by omega)]
   exact SV h2 (Nat.le_refl _) (by omega) hD'
  have hpl:=(Hu hq hD.hp).2.2.2.1
  have hpL:(D0 st.q).length=st.q.length:=by unfold D0;rw[JO,BC]
  by_cases hd:st.done.getD (Bb st.q).2 true=true
  ·simp +contextual (maxSteps:=4000000) only[↓bdD,bdP,Nat.reduceLT,Nat.reduceBEq,Nat.reduceEqDiff,Nat.reduceAdd,Store.new,Store.set,↓reduceIte,ty3,ty4,Mt,DD,Hr,Dg,Ot,sl,spop,hqi,i4,hnd,hd,hdl,v1,hN4,e6,e7,Dg,DD]
   have hse:En A out lv st=⟨st.far,st.last,st.done,EA st.q⟩:=by unfold En;rw[if_pos hd]
   refine ⟨EB out (En A out lv st),by omega,_,_,En A out lv st,d',dp',g,(D0 st.q).drop (st.q.length-1)++tl,rfl,by omega,?_,hD',rfl,hrun',?_,by omega⟩
   ·rw [hse]
    exact (hO2.high r0 (by omega)).high r0 (by omega)
   ·rw [hse]
    simp only[List.length_append,List.length_drop]
    omega
  ·have hd':st.done.getD (Bb st.q).2 true=false:=by simpa using hd
   have sop:=Aea (B:=B) (u:=(Bb st.q).2) (st:=⟨Aa (Aa (Aa O2 i1 (some (IObj.arr 0 2 [PV.agg [I 0,I 0]]))) i1 (some (IObj.arr 0 2 [PV.agg [I (Bb st.q).1,I ((Bb st.q).2:Nat)]]))) (M+4) (some (.arr 0 1 ((st.done.set (Bb st.q).2 true).map PV.bool))),i1+1⟩)
   unfold gP at sop
   rw [←hg2]at sop
   have hset:(st.done.map PV.bool).set (Bb st.q).2 (.bool true)=(st.done.set (Bb st.q).2 true).map PV.bool:=by rw[List.map_set]
   simp +contextual (maxSteps:=4000000) only[↓bdD,bdP,Nat.reduceLT,Nat.reduceBEq,Nat.reduceEqDiff,Nat.reduceAdd,Nat.reduceLeDiff,reduceCtorEq,Store.new,Store.set,↓reduceIte,ty3,ty4,JL,Mt,DD,Hr,Dg,Ot,sl,spop,hqi,i4,hnd,hd',hset,hdl,v1,hN4,hM4,sop,e6,e7,Dg,DD]
   have hun:(Bb st.q).2<out.length:=by rw[lo];exact v1
   have ho1:=h2.out1 (Bb st.q).2 v1
   obtain ⟨l,hl⟩:∃l,out.getD (Bb st.q).2 []=l:=⟨_,rfl⟩
   have hll:l.length≤1000000000:=by
    have := JP (out:=out) (u:=(Bb st.q).2) (done:=st.done) (by rw[hD.ld];exact v1) hd' out.length
    rw [if_pos hun,hl]at this
    unfold EB at hm
    omega
   have hyo:=Ad9 (B:=B) (A:=A) (out:=out) (lv:=lv) hun (fun k hk=>(ho1 k hk).1) (by rw[hl];exact hll)
   rw [hl]at hyo ho1
   unfold gP at hyo
   rw [←hg2]at hyo
   refine Fb (ys:=(FF A l).map fun k => [I (k:Nat)]) (f:=86) (first := []) (captured := [.vptr [.ptr g2 0 0 0] 0,.vptr [I ((Bb st.q).2:Nat)] 0]) rfl rfl (AV rfl) ?_ hyo rfl ?_ (by kernel_rfl) (by kernel_rfl)
    (fun i st'=>∃g' tl' dp',PM ob M N (stI A lv st l i) g' tl' st'.obj∧(st'.obj i1=some (.arr 0 2 [.agg [I (Bb st.q).1,I ((Bb st.q).2:Nat)]])∧i1<st'.next)∧(∃E,DI A lv N s (stI A lv st l i) (Bb st.q).1 E dp')∧(stI A lv st l i).done=st.done.set (Bb st.q).2 true∧(∀v,v<N→(st.done.set (Bb st.q).2 true).getD v true=true→(stI A lv st l i).far.getD v 0=st.far.getD v 0)∧(stI A lv st l i).q.length+tl'.length≤m00∧(stI A lv st l i).q.length+((FF A l).length-i)≤m00)
    (fun e st'=>False) ?_ ?_ ?_ ?_ ?_ ?_ ?_ ?_
   ·simp +contextual (maxSteps:=4000000) only[↓bdD,bdP]
   ·intro y hy
    obtain ⟨x,_,rfl⟩:=List.mem_map.1 hy
    rfl
   ·rintro i S S' ⟨g',tl',dp2,a,⟨b1,b2⟩,rest⟩ hL
    exact ⟨g',tl',dp2,a.later r0 h6 (by omega) hL,⟨hL.2 _ _ b2 b1 (by simp),Nat.lt_of_lt_of_le b2 hL.1⟩,rest⟩
   ·exact fun e=>Stays.const
   ·refine ⟨g,(D0 st.q).drop (st.q.length-1)++tl,dp,((hO2.high r0 (by omega)).high r0 (by omega)).doneS r0 _,⟨?_,by dsimp only;omega⟩,⟨_,WV hD hq hd'⟩,rfl,fun _ _ _=>rfl,?_,?_⟩
    ·simp only[Aa,if_neg hM4,if_true]
    ·simp only[stI,List.take_zero,List.foldl_nil,ID,List.length_append,List.length_drop]
     omega
    ·simp only[stI,List.take_zero,List.foldl_nil,ID]
     have h:=JP (out:=out) (u:=(Bb st.q).2) (done:=st.done) (by rw[hD.ld];exact v1) hd' out.length
     rw [if_pos hun,hl]at h
     unfold EB at hm
     have hf:(FF A l).length≤l.length:=List.length_filter_le _ _
     omega
   ·rintro i S ⟨g',tl',dp2,a,_⟩
    exact h1.of a.pb.fr
   ·rintro i y ⟨O5,M5⟩ id lr hy hid hlp ⟨g',tl',dp2,a,⟨b1,b2⟩,⟨E,hDE⟩,hdn,hfar,hl1,hl2⟩
    obtain ⟨k,hk,rfl⟩:∃k,(FF A l)[i]?=some k∧y = [I (k:Nat)]:=by
     rw [List.getElem?_map,Option.map_eq_some_iff]at hy
     obtain ⟨k,h1,h2⟩:=hy
     exact ⟨k,h1,h2.symm⟩
    dsimp only at hid hlp a b1 b2
    have hkm:=List.mem_filter.1 (List.mem_of_getElem? hk)
    obtain ⟨hkA,hku⟩:=ho1 k hkm.1
    have hkL:0<aL A k:=by simpa using hkm.2
    have hto:=(h2.ar k hkA).2
    simp +contextual (maxSteps:=4000000) only[↓bdD,bdP,Nat.reduceLT]
    refine ⟨rfl,hlp,fun rb=>?_⟩
    have a5:=a.lpS h6 (r':=rb) hlp
    have b5:Aa O5 id (some (.lp rb)) i1=some (.arr 0 2 [.agg [I (Bb st.q).1,I ((Bb st.q).2:Nat)]]):=by
     simp only[Aa]
     rw [if_neg (fun e=>by rw[←e,b1]at hlp;cases hlp),b1]
    have c5:Aa O5 id (some (.lp rb)) id=some (.lp rb):=by simp[Aa]
    simp only[Store.set]
    have hne:∀x o,Aa O5 id (some (.lp rb)) x=some o→(∀r,o≠.lp r)→¬id=x:=fun x o hx hr e=>by
     rw [←e,c5]at hx;cases hx;exact hr rb rfl
    generalize Aa O5 id (some (.lp rb))=O6 at *
    have hsucc:=mY (A:=A) (lv:=lv) (st:=st) hk
    obtain ⟨hil,_⟩:=List.getElem?_eq_some_iff.1 hk
    rw [hsucc]
    clear hsucc a
    have hdu:=v2 hd'
    obtain ⟨dp3,r1,r2,r3,r4⟩:=kF h2 hDE hkA (by rw[hdn,hku,Fc (by rw[hD.ld];exact v1),if_pos rfl]) (by rw[hku,hfar _ v1 (by rw[Fc (by rw[hD.ld];exact v1),if_pos rfl])];exact hdu.symm)
    have r5:∀v,v<N→(st.done.set (Bb st.q).2 true).getD v true=true→(rlx A lv (Bb st.q).1 (stI A lv st l i) k).far.getD v 0=st.far.getD v 0:=fun v hv hh=>by
     rw [r3 v hv (by rw[hdn];exact hh)];exact hfar v hv hh
    have r6:(rlx A lv (Bb st.q).1 (stI A lv st l i) k).q.length+((FF A l).length-(i+1))≤m00:=by omega
    rw [hdn]at r2
    obtain ⟨dd,hdd⟩:∃dd,(Bb st.q).1=dd:=⟨_,rfl⟩
    obtain ⟨u,hu⟩:∃u,(Bb st.q).2=u:=⟨_,rfl⟩
    have hq0:=(hD.qin _ v3).2.1
    have hmag:=hD.mag _ v1 hq0
    have hdpu:=hD.dpu _ v1 hq0
    have hcnt:st.done.count true≤N:=by rw[←hD.ld];exact List.count_le_length
    have hP:=h2.pr k hkA
    have hlu:=h9 u
    have hlt:=h9 (aT A k)
    rw [←hdu,hdd,hu]at hmag
    rw [hu]at hdpu
    rw [hu]at hku
    have w1:IntKind.i64.wrap (dd+aP A k)=dd+aP A k:=Ag (by omega) (by omega)
    have w2:IntKind.i64.wrap (dd+aP A k+lv.getD u 0)=dd+aP A k+lv.getD u 0:=Ag (by omega) (by omega)
    obtain ⟨X,hX⟩:∃X,dd+aP A k+lv.getD u 0-lv.getD (aT A k) 0=X:=⟨_,rfl⟩
    have w3:IntKind.i64.wrap (dd+aP A k+lv.getD u 0-lv.getD (aT A k) 0)=X:=by rw[Ag (by omega) (by omega),hX]
    have hnx:nxt A lv dd k=X:=by unfold nxt;rw[hku,hX]
    have hnA:=Ci hkA
    have eF:(A.getD k dA).1=u:=hku
    have eT:(A.getD k dA).2.1=aT A k:=rfl
    have eP:(A.getD k dA).2.2.2=aP A k:=rfl
    rw [eF,eT,eP]at hnA
    have hTl:=hDE.lf
    have hTa:=hDE.ll
    have vu:u<N:=by rw[←hu];exact v1
    have hr:rlx A lv dd (stI A lv st l i) k=if (stI A lv st l i).far.getD (aT A k) 0<0∨X<(stI A lv st l i).far.getD (aT A k) 0 then⟨(stI A lv st l i).far.set (aT A k) X,(stI A lv st l i).last.set (aT A k) k,(stI A lv st l i).done,FU (stI A lv st l i).q (X,aT A k)⟩else stI A lv st l i:=by
     unfold rlx
     rw [hnx]
     simp only[hkL,true_and]
    rw [hdd]at r1 r2 r5 r6 r4 ⊢
    rw [hr]at r1 r2 r5 r6 r4 ⊢
    rw [hdd,hu]at b5
    rw [hu]at r2 r5 ⊢
    clear hy hk h2 hD hms hrun' hD' hyo hO hO2 spop sl sop hset e0 e1 e2 e3 e4 e5 e6 e7 f0 f1 f2 f4 fr i4 hnd r3
    generalize stI A lv st l i=T at *
    generalize aT A k=tt at *
    have E0:=a5.pb.e0
    have E1:=a5.pb.e1
    have E2:=a5.pb.e2
    have E3:=a5.pb.e3
    have E5:=a5.e5
    have E6:=a5.e6
    have E7:=a5.e7
    have F1:=a5.pb.fr _ _ a1
    have F2:=a5.pb.fr _ _ a2
    have F4:=a5.pb.fr _ _ a4
    have x0:¬M=M5:=by omega
    have x1:¬M+1=M5:=by omega
    have x2:¬M+2=M5:=by omega
    have x3:¬M+3=M5:=by omega
    have x7:¬M+7=M5:=by omega
    have y0:¬M5=M:=by omega
    have y2:¬M5=M+2:=by omega
    have yi:¬i1=M5:=by omega
    have yj:¬M5=i1:=by omega
    have z1:¬g1=M5:=by omega
    have z2:¬g2=M5:=by omega
    have z4:¬g4=M5:=by omega
    have zi:¬id=M5:=by omega
    have hO7:=((a5.high r0 (n:=M5) (x:=some (.arr 0 4 [.agg [I 0,I 0,I 0,I 0]])) (by omega)).high r0 (n:=M5) (x:=some (.arr 0 4 [.agg [I (u:Nat),I (tt:Nat),I (A.getD k dA).2.2.1,I (aP A k)]])) (by omega)).farS r0 (T.far.set tt X) (T.last.set tt (k:Int))
    have hPu:=yS (ob:=Aa (Aa (Aa (Aa O6 M5 (some (.arr 0 4 [.agg [I 0,I 0,I 0,I 0]]))) M5 (some (.arr 0 4 [.agg [I (u:Nat),I (tt:Nat),I (A.getD k dA).2.2.1,I (aP A k)]]))) M (some (.arr 0 1 ((T.far.set tt X).map (PV.int .i64))))) (M+2) (some (.arr 0 1 ((T.last.set tt (k:Int)).map (PV.int .i64))))) (M:=M5+1) (qid:=M+6) (qg:=0) (aid:=M+5) (g:=g') (q:=T.q) (tl:=tl') (X,tt) rfl rfl
     ⟨⟨hO7.e6, hO7.e5,by dsimp only;rw[List.length_append];omega,by dsimp only;omega,by dsimp only;omega⟩,by dsimp only;rw[List.length_append];omega⟩
    have hlq:T.q.length+1+(psQ ⟨M+6,0,M+5,g',T.q,tl',(X,tt),0,0⟩).2.length≤m00:=by
     unfold psQ
     dsimp only
     split
     ·simp only[List.length_nil];omega
     ·rename_i h
      have : 0<tl'.length:=List.length_pos_iff.2 h
      dsimp only
      rw [List.length_tail];omega
    generalize psQ ⟨M+6,0,M+5,g',T.q,tl',(X,tt),0,0⟩=PQ at *
    obtain ⟨g9,tl9⟩:=PQ
    dsimp only at hPu hlq
    have hO8:=hO7.hp r0 g9 (FU T.q (X,tt)) tl9
    have ui:∀x o,O6 x=some o→(x=i1∨x=id)→hpO (Aa (Aa (Aa (Aa O6 M5 (some (.arr 0 4 [.agg [I 0,I 0,I 0,I 0]]))) M5 (some (.arr 0 4 [.agg [I (u:Nat),I (tt:Nat),I (A.getD k dA).2.2.1,I (aP A k)]]))) M (some (.arr 0 1 ((T.far.set tt X).map (PV.int .i64))))) (M+2) (some (.arr 0 1 ((T.last.set tt (k:Int)).map (PV.int .i64))))) (M+6) 0 (M+5) g9 (FU T.q (X,tt)) tl9 x=some o:=fun x o hx hxx=>by
     have e1:¬x=M+6:=fun e=>by
      rcases hxx with h | h
      ·omega
      ·rw [←h,e,E6]at c5;cases c5
     have e2:¬x=M+5:=fun e=>by
      rcases hxx with h | h
      ·omega
      ·rw [←h,e,E5]at c5;cases c5
     have e3:¬x=M+2:=fun e=>by
      rcases hxx with h | h
      ·omega
      ·rw [←h,e,E2]at c5;cases c5
     have e4:¬x=M:=fun e=>by
      rcases hxx with h | h
      ·omega
      ·rw [←h,e,E0]at c5;cases c5
     have e5:¬x=M5:=by rcases hxx with h | h <;> omega
     simp only[hpO,Aa,if_neg e1,if_neg e2,if_neg e3,if_neg e4,if_neg e5,hx]
    have u1:=ui _ _ b5 (.inl rfl)
    have u2:=ui _ _ c5 (.inr rfl)
    clear ui
    generalize hpO (Aa (Aa (Aa (Aa O6 M5 (some (.arr 0 4 [.agg [I 0,I 0,I 0,I 0]]))) M5 (some (.arr 0 4 [.agg [I (u:Nat),I (tt:Nat),I (A.getD k dA).2.2.1,I (aP A k)]]))) M (some (.arr 0 1 ((T.far.set tt X).map (PV.int .i64))))) (M+2) (some (.arr 0 1 ((T.last.set tt (k:Int)).map (PV.int .i64))))) (M+6) 0 (M+5) g9 (FU T.q (X,tt)) tl9=O8 at *
    have hpu:=Mu (l:=T.q) (x:=(X,tt))
    by_cases c:T.far.getD tt 0<0
    ·rw [if_pos (.inl c)]at r1 r2 r5 r6 r4 ⊢
     simp +contextual (maxSteps:=4000000) only[↓bdD,bdP,Nat.reduceLT,Nat.reduceBEq,Nat.reduceEqDiff,Nat.reduceAdd,Nat.reduceLeDiff,reduceCtorEq,Store.new,Store.set,↓reduceIte,Nat.reduceBeqDiff,ty3,Ac5,AZ,JL,KH,GV,Lt,DD,Hr,Ot,Co,hPu,c,b5,hnA,hTl,hTa,vu,hto,w1,w2,w3,hkA,hN,E0,E1,E2,E3,E7,F1,F2,F4,x0,x1,x2,x3,x7,y0,y2,yi,z1,z2,t2,t5,t7,DD]
     refine ⟨u2,by omega,g9,tl9,dp3,hO8,⟨u1,by omega⟩,⟨_,r1⟩,r2,r5,by rw[hpu];exact hlq,r6⟩
    by_cases c2:X<T.far.getD tt 0
    ·rw [if_pos (.inr c2)]at r1 r2 r5 r6 r4 ⊢
     simp +contextual (maxSteps:=4000000) only[↓bdD,bdP,Nat.reduceLT,Nat.reduceBEq,Nat.reduceEqDiff,Nat.reduceAdd,Nat.reduceLeDiff,reduceCtorEq,Store.new,Store.set,↓reduceIte,Nat.reduceBeqDiff,ty3,Ac5,AZ,JL,KH,GV,Lt,DD,Hr,Ot,Co,hPu,c,c2,b5,hnA,hTl,hTa,vu,hto,w1,w2,w3,hkA,hN,E0,E1,E2,E3,E7,F1,F2,F4,x0,x1,x2,x3,x7,y0,y2,yi,z1,z2,t2,t5,t7,DD]
     refine ⟨u2,by omega,g9,tl9,dp3,hO8,⟨u1,by omega⟩,⟨_,r1⟩,r2,r5,by rw[hpu];exact hlq,r6⟩
    ·rw [if_neg (by intro h;rcases h with h | h;exact c h;exact c2 h)]at r1 r2 r5 r6 r4 ⊢
     simp +contextual (maxSteps:=4000000) only[↓bdD,bdP,Nat.reduceLT,Nat.reduceBEq,Nat.reduceAdd,Nat.reduceLeDiff,Store.new,Store.set,↓reduceIte,ty3,AZ,JL,KH,GV,Lt,Hr,Co,c,c2,b5,hnA,hTl,vu,hto,w1,w2,w3,hkA,hN,E0,E1,F1,F2,F4,x0,x1,yi,z1,z2,zi,c5]
     refine ⟨by omega,g',tl',dp3,?_,by omega,⟨_,r1⟩,r2,r5,hl1,r6⟩
     exact (a5.high r0 (by omega)).high r0 (by omega)
   ·rintro ⟨O5,M5⟩ ⟨g',tl',dp2,a,⟨b1,b2⟩,⟨E,hDE⟩,hdn,hfar,hl1,hl2⟩
    have hse:En A out lv st=stI A lv st l (FF A l).length:=by
     unfold En stI
     rw [if_neg hd,hl,List.take_length,TB]
    simp only[List.length_map]at a hl1 b2
    rw [←hse]at a hl1
    simp +contextual (maxSteps:=4000000) only[↓bdD,bdP,Nat.reduceBEq]
    exact ⟨EB out (En A out lv st),by omega,_,_,En A out lv st,d',dp',g',tl',rfl,by omega,a,hD',rfl,hrun',hl1,by omega⟩
   ·exact fun i S h=>h.elim
   ·exact fun S h=>h.elim
 ·have hfin:st=FV A out lv N s:=by
   rw [←hrun]
   cases m with
   | zero=>rfl
   | succ m=>simp only[Iq];rw[if_pos (by omega)]
  obtain ⟨dpF,hF⟩:=Qo h2
  unfold CJ lvM at hR
  rw [←hfin]at hF hR
  have hqi:¬(0:Int)<(st.q.length:Int):=by omega
  have hnd:=KT (l:=st.done) (k:=t) (by rw[hF.ld];exact h3)
  have hdl:=hF.ld
  have hfl:=hF.lf
  by_cases ht:st.done.getD t true=true
  ·rw [if_pos ht]at hR
   simp +contextual (maxSteps:=4000000) only[↓bdD,bdP,Nat.reduceLT,Nat.reduceBEq,Nat.reduceEqDiff,Nat.reduceAdd,↓reduceIte,ty4,AZ,Mt,DD,Dg,sl,hqi,hnd,ht,hdl,h3,e0,e1,e4,e6,e7,Dg,DD]
   refine Ax [16,149,150,151,152,153,154,155,156,157,158,159,160,161,162,163,164,165,166,167,168,169] N (fun j ρ st'=>ρ 149=I j∧∃O',st'=⟨O',nx⟩∧PM (Aa ob g1 (some (.arr 1 1 ((lvK lv st N j).map (PV.int .i64))))) M N st g tl O') (.refl _) ?_ ?_
   ·simp +contextual (maxSteps:=4000000) only[↓bdD,bdP]
    refine ⟨O,rfl,?_⟩
    rw [Ahx hN,Ig a1]
    exact hO
   clear hO e0 e1 e2 e3 e4 e5 e6 e7 fr f0 f1 f2 f4 sl
   rintro j ρ3 st' hj ⟨h149,O',rfl,hO⟩
   have e0:=hO.pb.e0
   have e1:=hO.pb.e1
   have e2:=hO.pb.e2
   have e3:=hO.pb.e3
   have e4:=hO.e4
   have fr:=hO.pb.fr
   have hg12:¬g2=g1:=by omega
   have hg42:¬g4=g1:=by omega
   have f1:=fr g1 _ (by simp only[Aa,if_true];rfl)
   have f2:=fr g2 _ (by simp only[Aa,if_neg hg12];exact a2)
   have f4:=fr g4 _ (by simp only[Aa,if_neg hg42];exact a4)
   have hlvl:=Dp (lv:=lv) (st:=st) (N:=N) (j:=j)
   by_cases hlt:j<N
   ·have hwk:=BF (k:=j) (by omega)
    have hnj:=KT (l:=st.done) (k:=j) (by rw[hF.ld];exact hlt)
    by_cases hdj:st.done.getD j true=true
    ·have hat:(lvK lv st N j).getD j 0=lv.getD j 0:=by rw[I7 hlt,if_neg (by omega)]
     have hst:=nA (lv:=lv) hlt hdj
     have hb:=h9 j
     have hm2:=hF.mag j hlt ((hF.don j hlt).1 hdj)
     have hw:IntKind.i64.wrap (lv.getD j 0+st.far.getD j 0)=lv.getD j 0+st.far.getD j 0:=Ag (by omega) (by omega)
     simp +contextual (maxSteps:=4000000) only[↓bdD,bdP,Nat.reduceLT,Nat.reduceBEq,Nat.reduceAdd,Nat.reduceLeDiff,Store.set,↓reduceIte,ty3,ty4,AZ,JL,GV,Mt,h149,hlt,hwk,hnj,hdj,hlvl,hat,hst,hw,hdl,hfl,e0,e1,e4,f1,f2]
     refine ⟨_,rfl,?_⟩
     have := hO.level (i:=g1) (by omega) (some (.arr 1 1 ((lvK lv st N (j+1)).map (PV.int .i64)))) _ (by rw[A4])
     rw [A4]at this
     exact this
    ·have hsk:=mZ (lv:=lv) (st:=st) (N:=N) hdj
     simp +contextual (maxSteps:=4000000) only[↓bdD,bdP,Nat.reduceLT,Nat.reduceBEq,Nat.reduceAdd,↓reduceIte,ty4,Mt,h149,hlt,hwk,hnj,hdj,hdl,e4]
     rw [hsk]
     exact ⟨_,rfl,hO⟩
   have e:N=j:=by omega
   subst e
   have hlm:lvK lv st N N=lvN lv st N:=Ahy
   rw [hlm]at hO
   have hrt:=(hF.don t h3).1 ht
   have r9:∀i o,Aa ob g1 (some (.arr 1 1 ((lvN lv st N).map (PV.int .i64)))) i=some o→i<M:=fun i o hi=>by
    simp only[Aa]at hi
    split at hi
    ·omega
    ·exact r0 i o hi
   clear hlt hlvl f1 e0 e1 e4
   simp +contextual (maxSteps:=4000000) only[↓bdD,bdP,Nat.reduceLT,Nat.reduceBEq,↓reduceIte,h149]
   refine CS [17,18,171,172,173,174,175,176,177,178,179,180,181,182,183,184,185,186,187,188,189,190,191] N (fun f ρ st'=>∃v pre gn O2,ρ 18=I (v:Nat)∧ρ 17=.ref nx gn 0 pre.length∧st'=⟨O2,nx+1⟩∧O2 nx=some (.arr gn 1 (Ba pre))∧PM (Aa ob g1 (some (.arr 1 1 ((lvN lv st N).map (PV.int .i64))))) M N st g tl O2∧v<N∧Rch A s v∧dpF v≤f∧pre.length+f≤N∧pre++EI A st.last s f v=EI A st.last s N t) (.slot _ 17 1 ?_ ?_) ?_ ?_
   ·simp +contextual (maxSteps:=4000000) only[↓bdD,bdP,Nat.reduceBEq]
   ·decide
   ·simp +contextual (maxSteps:=4000000) only[↓bdD,bdP,Nat.reduceBEq,Store.new]
    exact ⟨t,[],0,_,rfl,rfl,rfl,by simp[Aa,Ba],hO.high r9 (by omega),h3,hrt,Nat.le_of_lt (hF.dpN t h3 hrt),by simp,by simp⟩
   clear hO f2 f4 e2 e3 fr h149
   rintro f ρ4 st' ⟨v,pre,gn,O2,r18,r17,rfl,ho17,hO,hv,hrv,hdv,hlen2,hpre⟩
   have e2:=hO.pb.e2
   have e3:=hO.pb.e3
   have fr:=hO.pb.fr
   have f2:=fr g2 _ (by simp only[Aa,if_neg hg12];exact a2)
   have f4:=fr g4 _ (by simp only[Aa,if_neg hg42];exact a4)
   have hnp:(Ba pre).length=pre.length:=CB
   by_cases hvs:v=s
   ·have hpf:EI A st.last s f v = []:=by
     cases f with
     | zero=>rfl
     | succ f=>simp only[EI];rw[if_pos hvs]
    rw [hpf,List.append_nil]at hpre
    have hvi:(v:Int)=(s:Int):=by rw[hvs]
    simp +contextual (maxSteps:=4000000) only[↓bdD,bdP,Nat.reduceLT,Nat.reduceBEq,Ai,↓reduceIte,r17,r18,hvi]
    rw [←hR,←hpre]
    refine ⟨[nx],.inr ?_,fun i o hi=>?_,Nat.le_refl _,.lits _ _ fun e he c hc=>?_⟩
    ·simp [rdP,rdC,Store.only,Store.arr?,ho17,nB,hnp]
     exact List.take_of_length_le (by rw[hnp];exact Nat.le_refl _)
    ·rw [←hg1]at hi
     have hlt9:=r9 i o hi
     refine ⟨hlt9,?_,fr i o hi,?_⟩
     ·have : ¬i=nx:=by omega
      simp [this]
     ·simp only[Aa]at hi
      split at hi
      ·cases hi
       exact .inr fun e he c hc=>by
        obtain ⟨x,_,rfl⟩:=List.mem_map.1 he
        simp only[PV.cells,List.mem_singleton]at hc
        rw [hc];exact .int _ _
      ·exact .inl hi
    ·obtain ⟨x,_,rfl⟩:=List.mem_map.1 he
     simp only[PV.cells,List.mem_singleton]at hc
     rw [hc];exact .int _ _
   ·obtain ⟨k,k1,k2,k3,k4,k5,k6,k7⟩:=hF.par v hv hrv hvs
    obtain ⟨f1,rfl⟩:∃x,f=x+1:=⟨f-1,by omega⟩
    have hvi:¬(v:Int)=(s:Int):=by omega
    have hnA:=Ci k2
    have hll:=hF.ll
    have hpf:EI A st.last s (f1+1) v=k::EI A st.last s f1 (aF A k):=by
     simp only[EI]
     rw [if_neg hvs,k1,Int.toNat_natCast]
    have eF:(A.getD k dA).1=aF A k:=rfl
    have hb1:¬pre.length+1≤pre.length:=by omega
    have hb2:pre.length+1≤2147483648:=by omega
    have m8:M+2<nx:=by omega
    have y2:¬M+2=nx:=by omega
    have y3:¬M+3=nx:=by omega
    have y4:¬g2=nx:=by omega
    have y5:¬g4=nx:=by omega
    simp +contextual (maxSteps:=4000000) only[↓bdD,bdP,Nat.reduceLT,Nat.reduceBEq,Nat.reduceAdd,Nat.reduceLeDiff,Store.set,↓reduceIte,ty3,AZ,JL,KH,GV,Lt,r17,r18,hvi,k1,hv,hnp,hnA,eF,k2,hll,ho17,hb1,hb2,y2,y3,y4,y5,e2,e3,f2,f4,Nat.mul_one]
    refine ⟨f1,by omega,aF A k,pre ++ [k],gn+1,_,rfl,by rw[List.length_append];rfl,rfl,?_,hO.high r9 (by omega),(h2.ar k k2).1,k5,by omega,by rw[List.length_append,List.length_singleton];omega,by rw[List.append_assoc];rw[hpf]at hpre;exact hpre⟩
    simp only[Aa,if_true]
    rw [J9,List.take_of_length_le (by rw[hnp];exact Nat.le_refl _)]
  ·rw [if_neg ht]at hR
   simp +contextual (maxSteps:=4000000) only[↓bdD,bdP,Nat.reduceLT,Nat.reduceBEq,Ai,Nat.reduceEqDiff,Nat.reduceAdd,↓reduceIte,ty4,Mt,DD,Dg,sl,hqi,hnd,ht,hdl,h3,e4,e6,e7,Dg,DD]
   rw [←hR]
   exact ⟨[],.inl rfl,fun i o hi=>⟨r0 i o hi,rfl,fr i o hi,.inl hi⟩,Nat.le_refl _,.nils⟩
end Sim
