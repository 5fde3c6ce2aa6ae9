/- Lemmas. -/
import Derived.Test.YtdfjimjbdakofaaGreatQH
set_option maxRecDepth 10000
set_option maxHeartbeats 4000000
set_option linter.all false
open BitVec renaming ofInt->ap
open Go.IntKind renaming i64->nm
open Go.Proofs.Tryz renaming prog->pk
open List renaming foldl_cons->rp,cons.injEq->ix,replicate->ba,length_replicate->ft,append_assoc->co,getElem?_eq_some_iff->ab,take_succ_eq_append_getElem->rr,foldl_append->rt,ext_getElem->ru,getD_eq_getElem?_getD->oa,getElem?_eq_getElem->gl,length_set->ra,length_append->cu,length_drop->cx,map_set->rx,mem_map->oh,take_zero->cz,foldl_nil->ry,count_le_length->rz,take_length->r7,length_map->ow,take_of_length_le->sa,mem_singleton->ku,length_singleton->se,length_take->cw,getElem?_append_right->ct,getElem?_set_self->gb,getElem?_set_ne->gc,mem_append->kq,getElem?_replicate->fq
open Nat renaming le_refl->cg,reduceBEq->r8,mod_two_eq_zero_or_one->sg
open Option renaming some.injEq->bp
open Sim.IObj renaming arr.injEq->q8
open Sim.PV renaming ptr.injEq->rq,int.injEq->qt,int->mt,bool->mz
open Sim.Store renaming new->kp,set->kd
noncomputable section
namespace Sim
open Go Go.Proofs
attribute [local congr] Ah Ai Ag At Al Aj Aq
theorem VF {A:List Arc} {lv:List Int} {d:Int}:∀ {l:List Nat} {st:DS},(GO A l).foldl (rlx A lv d) st=l.foldl (rlx A lv d) st
 | [],st=>rfl
 | k::l,st=>by
  have ih:=λst=>VF (A:=A) (lv:=lv) (d:=d) (l:=l) (st:=st)
  unfold GO at ih ⊢
  by_cases c:0<aL A k
  .rw [List.filter_cons_of_pos (by simpa using c),rp,rp,ih]
  .rw [List.filter_cons_of_neg (by simpa using c),rp,ih]
   congr 1
   unfold rlx
   rw [if_neg (λh=>c h.1)]
def S6 (x:Nat×Nat):List PV := [gP x.1,I (x.2:Nat)]
def Yx (x:Nat×Nat) (st:Store):PV×Store:=(.func (.func 116) [] [.vptr [gP x.1] 0,.vptr [I (x.2:Nat)] 0],st)
def e_open:Nat×Ent:=(102,.x (A9 S6 (λ_ _=>True) Yx))
theorem Aiy {B u:Nat} {st:Store}:A9 S6 (λ_ _=>True) Yx [gP B,I (u:Nat)] st=some (.func (.func 116) [] [.vptr [gP B] 0,.vptr [I (u:Nat)] 0],st) :=
 Bc (λx y st h _ _=>by
  obtain ⟨a,b⟩:=x
  obtain ⟨c,d⟩:=y
  simp only[S6,gP,ix,and_true,rq,qt,true_and]at h
  have e1:a=c:=by omega
  have e2:b=d:=by omega
  subst e1;subst e2;rfl) (i:=(B,u)) trivial
theorem Aiz:AM pk e_open.1 e_open.2:=Cf λx st _=>by
 obtain ⟨B,u⟩:=x
 obtain ⟨ob,M⟩:=st
 simp only[S6,Yx]
 refine BT AQ (l := []) (Au) [] [] 0 Tryz.func102 rfl (by decide +kernel) (N:=6) rfl (by simp) rfl (by kernel_rfl) ?_
 simp only[↓bdD,bdP,seval,Ao,Tryz.f102]
 exact Left.refl
def Jb (N k:Nat):List Int:=ba k (-1)++ba (N-k) 0
theorem ZD {N:Nat}:Jb N 0=ba N 0:=by simp[Jb]
theorem Acm {N:Nat}:Jb N N=ba N (-1):=by simp[Jb]
theorem jE {N k:Nat} (h:k<=N):(Jb N k).length=N:=by simp[Jb];omega
theorem jF {N k:Nat} (h:k<N):(Jb N k).set k (-1)=Jb N (k+1):=by
 unfold Jb
 obtain ⟨m,hm⟩:∃m,N-k=m+1:=⟨N-k-1,by omega⟩
 rw [List.set_append,if_neg (by simp),ft,Nat.sub_self,hm,List.replicate_succ,List.set_cons_zero,show N-(k+1)=m by omega,List.replicate_succ',co]
 rfl
structure PB (ob:Nat->Option IObj) (M N:Nat) (far last:List Int) (O:Nat->Option IObj):Prop where
 e0 : O M=some (.arr 0 1 (far.map (mt .i64)))
 e1 : O (M+1)=some (.arr 0 1 [.ref M 0 0 N])
 e2 : O (M+2)=some (.arr 0 1 (last.map (mt .i64)))
 e3 : O (M+3)=some (.arr 0 1 [.ref (M+2) 0 0 N])
 fr : ∀i o,ob i=some o->O i=some o
structure PM (ob:Nat->Option IObj) (M N:Nat) (st:DS) (g:Nat) (tl:List It) (O:Nat->Option IObj):Prop where
 pb : PB ob M N st.far st.last O
 e4 : O (M+4)=some (.arr 0 1 (st.done.map mz))
 e5 : O (M+5)=some (.arr g 2 ((st.q++tl).map itV))
 e6 : O (M+6)=some (.arr 0 1 [.ref (M+5) g 0 st.q.length])
 e7 : O (M+7)=some (.arr 0 1 [.ptr (M+6) 0 0 0])
section
variable {ob:Nat->Option IObj} {M N:Nat} {st:DS} {g:Nat} {tl:List It} {O:Nat->Option IObj}
theorem PM.hp (h:PM ob M N st g tl O) (r0:∀i o,ob i=some o->i<M) (g':Nat) (q' tl':List It):PM ob M N ⟨st.far,st.last,st.done,q'⟩ g' tl' (hpO O (M+6) 0 (M+5) g' q' tl'):=by
 have b0:=h.pb.e0
 have b1:=h.pb.e1
 have b2:=h.pb.e2
 have b3:=h.pb.e3
 refine ⟨⟨?_,?_,?_,?_,λi o hi=>?_⟩,?_,?_,?_,?_⟩
 .simp [hpO,Ab,b0]
 .simp [hpO,Ab,b1]
 .simp [hpO,Ab,b2]
 .simp [hpO,Ab,b3]
 .have := r0 i o hi
  simp only[hpO,Ab]
  rw [if_neg (by omega),if_neg (by omega),h.pb.fr i o hi]
 .simp [hpO,Ab,h.e4]
 .simp [hpO,Ab]
 .simp [hpO,Ab]
 .simp [hpO,Ab,h.e7]
theorem PM.high (h:PM ob M N st g tl O) (r0:∀i o,ob i=some o->i<M) {n:Nat} {x:Option IObj} (hn:M+8<=n):PM ob M N st g tl (Ab O n x):=by
 have key:∀i,i<M+8->Ab O n x i=O i:=λi hi=>by simp only[Ab];rw[if_neg (by omega)]
 exact ⟨⟨by rw[key _ (by omega)];exact h.pb.e0,by rw[key _ (by omega)];exact h.pb.e1,by rw[key _ (by omega)];exact h.pb.e2,by rw[key _ (by omega)];exact h.pb.e3,λi o hi=>by have:=r0 i o hi;rw[key _ (by omega)];exact h.pb.fr i o hi⟩,
  by rw[key _ (by omega)];exact h.e4,by rw[key _ (by omega)];exact h.e5,by rw[key _ (by omega)];exact h.e6,by rw[key _ (by omega)];exact h.e7⟩
theorem PM.doneS (h:PM ob M N st g tl O) (r0:∀i o,ob i=some o->i<M) (dn:List Bool):PM ob M N ⟨st.far,st.last,dn,st.q⟩ g tl (Ab O (M+4) (some (.arr 0 1 (dn.map mz)))):=by
 have b0:=h.pb.e0
 have b1:=h.pb.e1
 have b2:=h.pb.e2
 have b3:=h.pb.e3
 refine ⟨⟨?_,?_,?_,?_,λi o hi=>?_⟩,?_,?_,?_,?_⟩
 .simp [Ab,b0]
 .simp [Ab,b1]
 .simp [Ab,b2]
 .simp [Ab,b3]
 .have := r0 i o hi
  simp only[Ab]
  rw [if_neg (by omega),h.pb.fr i o hi]
 .simp [Ab]
 .simp [Ab,h.e5]
 .simp [Ab,h.e6]
 .simp [Ab,h.e7]
theorem PM.farS (h:PM ob M N st g tl O) (r0:∀i o,ob i=some o->i<M) (fa la:List Int):PM ob M N ⟨fa,la,st.done,st.q⟩ g tl (Ab (Ab O M (some (.arr 0 1 (fa.map (mt .i64))))) (M+2) (some (.arr 0 1 (la.map (mt .i64))))):=by
 have b1:=h.pb.e1
 have b3:=h.pb.e3
 refine ⟨⟨?_,?_,?_,?_,λi o hi=>?_⟩,?_,?_,?_,?_⟩
 .simp [Ab]
 .simp [Ab,b1]
 .simp [Ab]
 .simp [Ab,b3]
 .have := r0 i o hi
  simp only[Ab]
  rw [if_neg (by omega),if_neg (by omega),h.pb.fr i o hi]
 .simp [Ab,h.e4]
 .simp [Ab,h.e5]
 .simp [Ab,h.e6]
 .simp [Ab,h.e7]
theorem PM.lpS (h:PM ob M N st g tl O) (hl:∀i r,ob i≠some (.lp r)) {id:Nat} {r r':Loop} (hid:O id=some (.lp r)):PM ob M N st g tl (Ab O id (some (.lp r'))):=by
 have key:∀ {i o},O i=some o->(∀r,o≠.lp r)->Ab O id (some (.lp r')) i=some o:=λ{i o} hi hr=>by
  simp only[Ab]
  rw [if_neg (λe=>by rw[e,hid]at hi;cases hi;exact hr r rfl),hi]
 exact ⟨⟨key h.pb.e0 (by simp),key h.pb.e1 (by simp),key h.pb.e2 (by simp),key h.pb.e3 (by simp),λi o hi=>key (h.pb.fr i o hi) λr e=>hl i r (by rw[hi,e])⟩,
  key h.e4 (by simp),key h.e5 (by simp),key h.e6 (by simp),key h.e7 (by simp)⟩
end
theorem PM.later {ob:Nat->Option IObj} {M N:Nat} {st:DS} {g:Nat} {tl:List It} {S S':Store} (h:PM ob M N st g tl S.obj) (r0:∀i o,ob i=some o->i<M) (hl:∀i r,ob i≠some (.lp r)) (hn:M+8<=S.next) (hL:Later S S'):PM ob M N st g tl S'.obj:=by
 have key:∀ {i o},S.obj i=some o->i<M+8->(∀r,o≠.lp r)->S'.obj i=some o:=λ{i o} hi hlt hr=>hL.2 i o (by omega) hi hr
 exact ⟨⟨key h.pb.e0 (by omega) (by simp),key h.pb.e1 (by omega) (by simp),key h.pb.e2 (by omega) (by simp),key h.pb.e3 (by omega) (by simp),λi o hi=>key (h.pb.fr i o hi) (by have:=r0 i o hi;omega) λr e=>hl i r (by rw[hi,e])⟩,
  key h.e4 (by omega) (by simp),key h.e5 (by omega) (by simp),key h.e6 (by omega) (by simp),key h.e7 (by omega) (by simp)⟩
theorem GrAt.of {B:Nat} {A:List Arc} {out:List (List Nat)} {lv:List Int} {ob O:Nat->Option IObj} (h:GrAt B A out lv ob) (fr:∀i o,ob i=some o->O i=some o):GrAt B A out lv O :=
 ⟨fr _ _ h.o0,fr _ _ h.o1,fr _ _ h.o2,fr _ _ h.o4,λu hu=>fr _ _ (h.o5 u hu)⟩
def stI (A:List Arc) (lv:List Int) (st:DS) (l:List Nat) (i:Nat):DS:=((GO A l).take i).foldl (rlx A lv (Bh st.q).1) (Ki st)
theorem sV {A:List Arc} {lv:List Int} {st:DS} {l:List Nat} {i k:Nat} (h:(GO A l)[i]?=some k):stI A lv st l (i+1)=rlx A lv (Bh st.q).1 (stI A lv st l i) k:=by
 unfold stI
 obtain ⟨hi,he⟩:=ab.1 h
 rw [rr hi,rt,he]
 rfl
theorem JA {ob:Nat->Option IObj} {i:Nat} {o:IObj} (h:ob i=some o):Ab ob i (some o)=ob:=by
 funext j
 simp only[Ab]
 by_cases c:j=i
 .rw [if_pos c,c,h]
 .rw [if_neg c]
def lvK (lv:List Int) (st:DS) (N j:Nat):List Int:=(List.range N).map λv=>if v<j/\st.done.getD v true=true then lv.getD v 0+st.far.getD v 0 else lv.getD v 0
theorem DH {lv:List Int} {st:DS} {N j:Nat}:(lvK lv st N j).length=N:=by simp[lvK]
theorem KA {lv:List Int} {st:DS} {N j v:Nat} (h:v<N):(lvK lv st N j).getD v 0=if v<j/\st.done.getD v true=true then lv.getD v 0+st.far.getD v 0 else lv.getD v 0:=by
 simp [lvK,h]
theorem Acn {l m:List Int} (h:l.length=m.length) (g:∀v,v<l.length->l.getD v 0=m.getD v 0):l=m:=by
 refine ru h λi h1 h2=>?_
 have := g i h1
 rwa [oa,oa,gl h1,gl h2]at this
section
variable {lv:List Int} {st:DS}
theorem Am2 {N:Nat} (h:lv.length=N):lvK lv st N 0=lv :=
 Acn (by rw[DH,h]) λv hv=>by rw[DH]at hv;rw[KA hv,if_neg (by omega)]
theorem Am3 {N:Nat}:lvK lv st N N=lvN lv st N :=
 Acn (by rw[DH];simp[lvN]) λv hv=>by
  rw [DH]at hv
  rw [KA hv,Pc hv]
  simp [hv]
theorem sW {N j:Nat} (h:¬st.done.getD j true=true):lvK lv st N (j+1)=lvK lv st N j :=
 Acn (by rw[DH,DH]) λv hv=>by
  rw [DH]at hv
  rw [KA hv,KA hv]
  by_cases c:v=j
  .subst c;rw[if_neg (λg=>h g.2),if_neg (λg=>h g.2)]
  .by_cases c2:v<j
   .simp only[c2,show v<j+1 by omega]
   .simp only[c2,show ¬v<j+1 by omega]
theorem sZ {N j:Nat} (hj:j<N) (h:st.done.getD j true=true):(lvK lv st N j).set j (lv.getD j 0+st.far.getD j 0)=lvK lv st N (j+1) :=
 Acn (by rw[ra,DH,DH]) λv hv=>by
  rw [ra,DH]at hv
  rw [Di (by rw[DH];exact hj),KA hv,KA hv]
  by_cases c:v=j
  .subst c;rw[if_pos rfl,if_pos ⟨by omega,h⟩]
  .rw [if_neg c]
   by_cases c2:v<j
   .simp only[c2,show v<j+1 by omega]
   .simp only[c2,show ¬v<j+1 by omega]
end
theorem PM.level {ob:Nat->Option IObj} {M N:Nat} {st:DS} {g:Nat} {tl:List It} {O:Nat->Option IObj} (h:PM ob M N st g tl O) {i:Nat} (hi:i<M) (x y:Option IObj) (e:ob=Ab ob i y):PM (Ab ob i x) M N st g tl (Ab O i x):=by
 have key:∀j,M<=j->Ab O i x j=O j:=λj hj=>by simp only[Ab];rw[if_neg (by omega)]
 refine ⟨⟨by rw[key _ (by omega)];exact h.pb.e0,by rw[key _ (by omega)];exact h.pb.e1,by rw[key _ (by omega)];exact h.pb.e2,by rw[key _ (by omega)];exact h.pb.e3,λj o hj=>?_⟩,
  by rw[key _ (by omega)];exact h.e4,by rw[key _ (by omega)];exact h.e5,by rw[key _ (by omega)];exact h.e6,by rw[key _ (by omega)];exact h.e7⟩
 simp only[Ab]at hj ⊢
 by_cases c:j=i
 .rw [if_pos c]at hj ⊢;exact hj
 .rw [if_neg c]at hj ⊢;exact h.pb.fr j o hj
theorem tA {l:List Nat}:AU (Ch l)=true:=Gx λx=>Fo _ _
theorem VG {l:List Nat} {k:Nat}:Ch (l ++ [k])=Ch l ++ [I (k:Nat)]:=by simp[Ch]
theorem MP {l:List Bool} {k:Nat} (h:k<l.length):nth (l.map mz) k=.bool (l.getD k true):=BW true h
structure GP where
 B : Nat
 A : List Arc
 out : List (List Nat)
 lv : List Int
 s : Nat
 t : Nat
def MQ (x:GP) (st:Store):Prop:=GrAt x.B x.A x.out x.lv st.obj/\Gr x.A x.out x.lv x.lv.length x.s/\x.t<x.lv.length/\¬x.t=x.s/\x.B+5+x.lv.length<=st.next/\WF st/\(∀i r,st.obj i≠some (.lp r)) /\
 x.lv.length <= 100000/\x.A.length<=1000000/\(∀v,-1000000000000<=x.lv.getD v 0/\x.lv.getD v 0<=1000000000000)/\E4 x.out (ini x.lv.length x.s)<=100000000
def MR (x:GP):List PV := [gP x.B,I (x.s:Nat),I (x.t:Nat)]
def Jc (x:GP) (st:Store):PV×Store :=
 if (IE x.A x.out x.lv x.lv.length x.s).done.getD x.t true=true then (.lits 1 (Ch (Dj x.A x.out x.lv x.lv.length x.s x.t)),⟨Ab st.obj (x.B+1) (some (.arr 1 1 ((lvM x.A x.out x.lv x.lv.length x.s).map (mt .i64)))),st.next⟩)else (.nils,st)
def e_path:Nat×Ent:=(88,.x (A9 MR MQ Jc))
theorem Ai0:AM pk e_path.1 e_path.2:=Fy λx st hx=>by
 obtain ⟨B,A,out,lv,s,t⟩:=x
 obtain ⟨ob,M⟩:=st
 unfold MQ at hx
 dsimp only at hx
 obtain ⟨h1,h2,h3,h3',h4,h5,h6,h7,h8,h9,h10⟩:=hx
 obtain ⟨N,hN⟩:∃N,lv.length=N:=⟨_,rfl⟩
 have a0:=h1.o0
 have a1:=h1.o1
 have a2:=h1.o2
 have a4:=h1.o4
 unfold J4 at a2
 have lo:=h2.lo
 have sN:=h2.sN
 simp only[MR,Jc]
 rw [hN]at h2 h3 h4 h7 h10 a2 lo sN ⊢
 rw [lo]at a2
 have hol:=Hb (B:=B) (out:=out)
 generalize hR:(if (IE A out lv N s).done.getD t true=true then ((.lits 1 (Ch (Dj A out lv N s t)),⟨Ab ob (B+1) (some (.arr 1 1 ((lvM A out lv N s).map (mt .i64)))),M⟩):PV×Store)else (.nils,⟨ob,M⟩))=R
 have r0:∀i o,ob i=some o->i<M:=h5
 obtain ⟨g1,hg1⟩:∃g,g=B+1:=⟨_,rfl⟩
 obtain ⟨g2,hg2⟩:∃g,g=B+2:=⟨_,rfl⟩
 obtain ⟨g4,hg4⟩:∃g,g=B+4:=⟨_,rfl⟩
 rw [<-hg1,<-hg2,<-hg4]at a2
 rw [<-hg1]at a1
 rw [<-hg4]at a4
 unfold gP
 rw [<-hg2]
 have n0:∀k,¬B=M+k:=λk=>by omega
 have n1:∀k,¬g1=M+k:=λk=>by omega
 have n2:∀k,¬g2=M+k:=λk=>by omega
 have n4:∀k,¬g4=M+k:=λk=>by omega
 have m0:=n0 0
 have m1:=n1 0
 have m2:=n2 0
 have m4:=n4 0
 rw [Nat.add_zero]at m0 m1 m2 m4
 have p1:M+1+1=M+2:=rfl
 have p2:M+2+1=M+3:=rfl
 have p3:M+3+1=M+4:=rfl
 have p4:M+4+1=M+5:=rfl
 have p5:M+5+1=M+6:=rfl
 have p6:M+6+1=M+7:=rfl
 have p7:M+7+1=M+8:=rfl
 have q1:¬M=M+1:=by omega
 have q2:¬M=M+2:=by omega
 have q3:¬M=M+3:=by omega
 have q4:¬M=M+4:=by omega
 have q5:¬M=M+5:=by omega
 have q6:¬M=M+6:=by omega
 have q7:¬M=M+7:=by omega
 have t1:¬M+1=M:=by omega
 have t2:¬M+2=M:=by omega
 have t3:¬M+3=M:=by omega
 have t4:¬M+4=M:=by omega
 have t5:¬M+5=M:=by omega
 have t6:¬M+6=M:=by omega
 have t7:¬M+7=M:=by omega
 have hNi:(N:Int)<=4294967296:=by omega
 refine BT AQ (l := [e_open,e_hpush,e_hpop,e_qlen]) ((Ad Aiz (Ad Ack (Ad Aiv (Ad Yu Au))))) [54,55] [700038,800040,700127,700128,700129,800132] 1 Tryz.func88 rfl (by decide +kernel) (N:=193) rfl (by simp) rfl (by kernel_rfl) ?_
 simp only[↓bdD,bdP,seval,kp,kd,e_open,e_hpush,e_hpop,e_qlen,Tryz.f88,ty3,AR,BM,Ls,Em,a0,a2,n0,n2,m0,m2,p1,p2,p3,q1,q2,q3,hNi]
 refine Aw [9,33,34,35,36,37,38,39,40,41,42] N (λk ρ st'=>ρ 33=I k/\∃O,st'=⟨O,M+4⟩/\PB ob M N (Jb N k) (Jb N k) O) (.refl _) ?_ ?_
 .simp only[↓bdD,bdP]
  refine ⟨_,rfl,⟨?_,?_,?_,?_,λi o hi=>?_⟩⟩
  .simp [Ab,ZD]
  .simp [Ab]
  .simp [Ab,ZD]
  .simp [Ab]
  .have := r0 i o hi
   simp only[Ab]
   rw [if_neg (by omega),if_neg (by omega),if_neg (by omega),if_neg (by omega),if_neg (by omega),if_neg (by omega),hi]
 rintro k ρ st' hk ⟨h33,O,rfl,hO⟩
 have e0:=hO.e0
 have e1:=hO.e1
 have e2:=hO.e2
 have e3:=hO.e3
 have fr:=hO.fr
 by_cases hlt:k<N
 .have hwk:=Cu (k:=k) (by omega)
  have hfl:=jE hk
  have hst:=jF hlt
  simp only[↓bdD,bdP,seval,kd,ty3,AR,e0,e1,e2,e3,h33,hlt,hwk,hfl,hst,t2]
  refine ⟨_,rfl,⟨?_,?_,?_,?_,λi o hi=>?_⟩⟩
  .simp [Ab]
  .simp [Ab,e1]
  .simp [Ab]
  .simp [Ab,e3]
  .have := r0 i o hi
   simp only[Ab]
   rw [if_neg (by omega),if_neg (by omega),fr i o hi]
 have e:N=k:=by omega
 subst e
 rw [Acm]at e0 e2
 clear hO hk hlt
 have f0:=fr _ _ a0
 have f1:=fr _ _ a1
 have f2:=fr _ _ a2
 have f4:=fr _ _ a4
 have x1:(ba N (-1:Int)).length=N:=ft
 have hset:(ba N (-1:Int)).set s 0=(ini N s).far:=rfl
 simp only[↓bdD,bdP,seval,kp,kd,ty3,ty4,AR,BM,Ls,Em,O0,DX,I7,Do,f0,f2,x1,hset,e0,e1,h33,sN,p4,p5,p6,p7,q3,q4,hNi,Do,DX]
 obtain ⟨m00,hm00⟩:∃m,E4 out (ini N s)=m:=⟨_,rfl⟩
 refine Et [12,13,14,15,56,57,58,59,60,61,62,63,64,65,66,67,68,69,70,71,72,73,74,75,76,77,79,80,81,82,83,84,85,86,87,88,89,90,91,92,93,94,95,96,97,98,99,100,101,102,103,104,105,106,107,108,109,110,111,112,113,114,115,116,117,118,119,120,121,122,123,124,125,126,127,128,129,130,131,132,133,134,135,136,137,138,139,140,141] m00 (λm ρ st'=>∃O nx st d dp g tl,st'=⟨O,nx⟩/\M+8<=nx/\PM ob M N st g tl O/\DI A lv N s st d (λ_=>True) dp/\E4 out st=m/\J3 A out lv m st=IE A out lv N s/\st.q.length+tl.length<=m00/\m<=m00) (.refl _) ?_ ?_
 .simp only[↓bdD,bdP]
  refine ⟨_,_,ini N s,0,_,0,[],rfl,cg _,⟨⟨?_,?_,?_,?_,λi o hi=>?_⟩,?_,?_,?_,?_⟩,rZ h2,hm00,by rw[<-hm00];rfl,?_⟩
  .simp [Ab]
  .simp [Ab,e1]
  .simp [Ab,ini,e2]
  .simp [Ab,e3]
  .have := r0 i o hi
   simp only[Ab]
   rw [if_neg (by omega),if_neg (by omega),if_neg (by omega),if_neg (by omega),if_neg (by omega),if_neg (by omega),fr i o hi]
  .simp [Ab,ini]
  .simp [Ab,ini]
  .simp [Ab,ini]
  .simp [Ab,Bi]
  .rw [<-hm00];simp[ini,E4]
 clear fr e0 e1 e2 e3 f0 f1 f2 f4 hset x1 O h33
 rintro m ρ2 st' ⟨O,nx,st,d,dp,g,tl,rfl,hnx,hO,hD,hm,hrun,hlen,hmm⟩
 have e0:=hO.pb.e0
 have e1:=hO.pb.e1
 have e2:=hO.pb.e2
 have e3:=hO.pb.e3
 have fr:=hO.pb.fr
 have e4:=hO.e4
 have e5:=hO.e5
 have e6:=hO.e6
 have e7:=hO.e7
 have f0:=fr _ _ a0
 have f1:=fr _ _ a1
 have f2:=fr _ _ a2
 have f4:=fr _ _ a4
 have sl:=Yv (aid:=M+5) (g:=g) (n:=st.q.length) (st.q++tl) (st:=⟨O,nx⟩) ⟨e5,by dsimp only;rw[cu];omega,by dsimp only;rw[cu];omega⟩
 by_cases hq:0<st.q.length
 .have hqi:(0:Int)<(st.q.length:Int):=by omega
  have spop:=Aiw (ob:=O) (M:=nx) (qid:=M+6) (qg:=0) (aid:=M+5) (g:=g) (q:=st.q) (tl:=tl) ⟨⟨e6,e5,by dsimp only;rw[cu];omega,by dsimp only;omega,by dsimp only;omega⟩,hq⟩
  have hO2:=(hO.high r0 (n:=nx) (x:=none) hnx).hp r0 g (EZ st.q) ((Ej st.q).drop (st.q.length-1)++tl)
  obtain ⟨i1,hi1⟩:∃i,i=nx+1:=⟨_,rfl⟩
  rw [<-hi1]at spop
  generalize hpO (Ab O nx none) (M+6) 0 (M+5) g (EZ st.q) ((Ej st.q).drop (st.q.length-1)++tl)=O2 at *
  obtain ⟨v1,v2,v3,v4,v5⟩:=SS hD hq
  have i4:=hO2.e4
  dsimp only at i4
  have hnd:=MP (l:=st.done) (k:=(Bh st.q).2) (by rw[hD.ld];exact v1)
  have hdl:=hD.ld
  have hN1:∀k,k<8->¬M+k=i1:=λk hk=>by omega
  have hN4:=hN1 4 (by omega)
  have hN7:=hN1 7 (by omega)
  have hM4:¬i1=M+4:=by omega
  obtain ⟨⟨d',dp',hD'⟩,hms⟩:=ST h2 hD hq
  have hrun':J3 A out lv (E4 out (EQ A out lv st)) (EQ A out lv st)=IE A out lv N s:=by
   obtain ⟨k1,rfl⟩:∃k,m=k+1:=⟨m-1,by omega⟩
   rw [<-hrun]
   simp only[J3]
   rw [if_neg (by omega)]
   exact VA h2 (cg _) (by omega) hD'
  have hpl:=(I9 hq hD.hp).2.2.2.1
  have hpL:(Ej st.q).length=st.q.length:=by unfold Ej;rw[Lw,BJ]
  by_cases hd:st.done.getD (Bh st.q).2 true=true
  .simp only[↓bdD,bdP,seval,kp,kd,ty3,ty4,O0,DX,I7,Do,Re,sl,spop,hqi,i4,hnd,hd,hdl,v1,hN4,e6,e7,Do,DX]
   have hse:EQ A out lv st=⟨st.far,st.last,st.done,EZ st.q⟩:=by unfold EQ;rw[if_pos hd]
   refine ⟨E4 out (EQ A out lv st),by omega,_,_,EQ A out lv st,d',dp',g,(Ej st.q).drop (st.q.length-1)++tl,rfl,by omega,?_,hD',rfl,hrun',?_,by omega⟩
   .rw [hse]
    exact (hO2.high r0 (by omega)).high r0 (by omega)
   .rw [hse]
    simp only[cu,cx]
    omega
  .have hd':st.done.getD (Bh st.q).2 true=false:=by simpa using hd
   have sop:=Aiy (B:=B) (u:=(Bh st.q).2) (st:=⟨Ab (Ab (Ab O2 i1 (some (IObj.arr 0 2 [PV.agg [I 0,I 0]]))) i1 (some (IObj.arr 0 2 [PV.agg [I (Bh st.q).1,I ((Bh st.q).2:Nat)]]))) (M+4) (some (.arr 0 1 ((st.done.set (Bh st.q).2 true).map mz))),i1+1⟩)
   unfold gP at sop
   rw [<-hg2]at sop
   have hset:(st.done.map mz).set (Bh st.q).2 (.bool true)=(st.done.set (Bh st.q).2 true).map mz:=by rw[rx]
   simp only[↓bdD,bdP,seval,kp,kd,ty3,ty4,Ls,O0,DX,I7,Do,Re,sl,spop,hqi,i4,hnd,hd',hset,hdl,v1,hN4,hM4,sop,e6,e7,Do,DX]
   have hun:(Bh st.q).2<out.length:=by rw[lo];exact v1
   have ho1:=h2.out1 (Bh st.q).2 v1
   obtain ⟨l,hl⟩:∃l,out.getD (Bh st.q).2 []=l:=⟨_,rfl⟩
   have hll:l.length<=1000000000:=by
    have := Lx (out:=out) (u:=(Bh st.q).2) (done:=st.done) (by rw[hD.ld];exact v1) hd' out.length
    rw [if_pos hun,hl]at this
    unfold E4 at hm
    omega
   have hyo:=Aix (B:=B) (A:=A) (out:=out) (lv:=lv) hun (λk hk=>(ho1 k hk).1) (by rw[hl];exact hll)
   rw [hl]at hyo ho1
   unfold gP at hyo
   rw [<-hg2]at hyo
   refine HF (ys:=(GO A l).map λk => [I (k:Nat)]) (f:=116) (first := []) (captured := [.vptr [.ptr g2 0 0 0] 0,.vptr [I ((Bh st.q).2:Nat)] 0]) rfl rfl (A8 rfl) ?_ hyo rfl ?_ (by kernel_rfl) (by kernel_rfl)
    (λi st'=>∃g' tl' dp',PM ob M N (stI A lv st l i) g' tl' st'.obj/\(st'.obj i1=some (.arr 0 2 [.agg [I (Bh st.q).1,I ((Bh st.q).2:Nat)]])/\i1<st'.next)/\(∃E,DI A lv N s (stI A lv st l i) (Bh st.q).1 E dp')/\(stI A lv st l i).done=st.done.set (Bh st.q).2 true/\(∀v,v<N->(st.done.set (Bh st.q).2 true).getD v true=true->(stI A lv st l i).far.getD v 0=st.far.getD v 0)/\(stI A lv st l i).q.length+tl'.length<=m00/\(stI A lv st l i).q.length+((GO A l).length-i)<=m00)
    (λe st'=>False) ?_ ?_ ?_ ?_ ?_ ?_ ?_ ?_
   .simp only[↓bdD,bdP]
   .intro y hy
    obtain ⟨x,_,rfl⟩:=oh.1 hy
    rfl
   .rintro i S S' ⟨g',tl',dp2,a,⟨b1,b2⟩,rest⟩ hL
    exact ⟨g',tl',dp2,a.later r0 h6 (by omega) hL,⟨hL.2 _ _ b2 b1 (by simp),Nat.lt_of_lt_of_le b2 hL.1⟩,rest⟩
   .exact λe=>Stays.const
   .refine ⟨g,(Ej st.q).drop (st.q.length-1)++tl,dp,((hO2.high r0 (by omega)).high r0 (by omega)).doneS r0 _,⟨?_,by dsimp only;omega⟩,⟨_,Zt hD hq hd'⟩,rfl,λ_ _ _=>rfl,?_,?_⟩
    .simp only[Ab,if_neg hM4,if_true]
    .simp only[stI,cz,ry,Ki,cu,cx]
     omega
    .simp only[stI,cz,ry,Ki]
     have h:=Lx (out:=out) (u:=(Bh st.q).2) (done:=st.done) (by rw[hD.ld];exact v1) hd' out.length
     rw [if_pos hun,hl]at h
     unfold E4 at hm
     have hf:(GO A l).length<=l.length:=List.length_filter_le _ _
     omega
   .rintro i S ⟨g',tl',dp2,a,_⟩
    exact h1.of a.pb.fr
   .rintro i y ⟨O5,M5⟩ id lr hy hid hlp ⟨g',tl',dp2,a,⟨b1,b2⟩,⟨E,hDE⟩,hdn,hfar,hl1,hl2⟩
    obtain ⟨k,hk,rfl⟩:∃k,(GO A l)[i]?=some k/\y = [I (k:Nat)]:=by
     rw [List.getElem?_map,Option.map_eq_some_iff]at hy
     obtain ⟨k,h1,h2⟩:=hy
     exact ⟨k,h1,h2.symm⟩
    dsimp only at hid hlp a b1 b2
    have hkm:=List.mem_filter.1 (List.mem_of_getElem? hk)
    obtain ⟨hkA,hku⟩:=ho1 k hkm.1
    have hkL:0<aL A k:=by simpa using hkm.2
    have hto:=(h2.ar k hkA).2
    simp only[↓bdD,bdP,Nat.reduceLT]
    refine ⟨rfl,hlp,λrb=>?_⟩
    have a5:=a.lpS h6 (r':=rb) hlp
    have b5:Ab O5 id (some (.lp rb)) i1=some (.arr 0 2 [.agg [I (Bh st.q).1,I ((Bh st.q).2:Nat)]]):=by
     simp only[Ab]
     rw [if_neg (λe=>by rw[<-e,b1]at hlp;cases hlp),b1]
    have c5:Ab O5 id (some (.lp rb)) id=some (.lp rb):=by simp[Ab]
    simp only[kd]
    have hne:∀x o,Ab O5 id (some (.lp rb)) x=some o->(∀r,o≠.lp r)->¬id=x:=λx o hx hr e=>by
     rw [<-e,c5]at hx;cases hx;exact hr rb rfl
    generalize Ab O5 id (some (.lp rb))=O6 at *
    have hsucc:=sV (A:=A) (lv:=lv) (st:=st) hk
    obtain ⟨hil,_⟩:=ab.1 hk
    rw [hsucc]
    clear hsucc a
    have hdu:=v2 hd'
    obtain ⟨dp3,r1,r2,r3,r4⟩:=rW h2 hDE hkA (by rw[hdn,hku,FM (by rw[hD.ld];exact v1),if_pos rfl]) (by rw[hku,hfar _ v1 (by rw[FM (by rw[hD.ld];exact v1),if_pos rfl])];exact hdu.symm)
    have r5:∀v,v<N->(st.done.set (Bh st.q).2 true).getD v true=true->(rlx A lv (Bh st.q).1 (stI A lv st l i) k).far.getD v 0=st.far.getD v 0:=λv hv hh=>by
     rw [r3 v hv (by rw[hdn];exact hh)];exact hfar v hv hh
    have r6:(rlx A lv (Bh st.q).1 (stI A lv st l i) k).q.length+((GO A l).length-(i+1))<=m00:=by omega
    rw [hdn]at r2
    obtain ⟨dd,hdd⟩:∃dd,(Bh st.q).1=dd:=⟨_,rfl⟩
    obtain ⟨u,hu⟩:∃u,(Bh st.q).2=u:=⟨_,rfl⟩
    have hq0:=(hD.qin _ v3).2.1
    have hmag:=hD.mag _ v1 hq0
    have hdpu:=hD.dpu _ v1 hq0
    have hcnt:st.done.count true<=N:=by rw[<-hD.ld];exact rz
    have hP:=h2.pr k hkA
    have hlu:=h9 u
    have hlt:=h9 (aT A k)
    rw [<-hdu,hdd,hu]at hmag
    rw [hu]at hdpu
    rw [hu]at hku
    have w1:nm.wrap (dd+aP A k)=dd+aP A k:=Af (by omega) (by omega)
    have w2:nm.wrap (dd+aP A k+lv.getD u 0)=dd+aP A k+lv.getD u 0:=Af (by omega) (by omega)
    obtain ⟨X,hX⟩:∃X,dd+aP A k+lv.getD u 0-lv.getD (aT A k) 0=X:=⟨_,rfl⟩
    have w3:nm.wrap (dd+aP A k+lv.getD u 0-lv.getD (aT A k) 0)=X:=by rw[Af (by omega) (by omega),hX]
    have hnx:nxt A lv dd k=X:=by unfold nxt;rw[hku,hX]
    have hnA:=ER hkA
    have eF:(A.getD k dA).1=u:=hku
    have eT:(A.getD k dA).2.1=aT A k:=rfl
    have eP:(A.getD k dA).2.2.2=aP A k:=rfl
    rw [eF,eT,eP]at hnA
    have hTl:=hDE.lf
    have hTa:=hDE.ll
    have vu:u<N:=by rw[<-hu];exact v1
    have hr:rlx A lv dd (stI A lv st l i) k=if (stI A lv st l i).far.getD (aT A k) 0<0\/X<(stI A lv st l i).far.getD (aT A k) 0 then⟨(stI A lv st l i).far.set (aT A k) X,(stI A lv st l i).last.set (aT A k) k,(stI A lv st l i).done,G6 (stI A lv st l i).q (X,aT A k)⟩else stI A lv st l i:=by
     unfold rlx
     rw [hnx]
     simp only[hkL,true_and]
    rw [hdd]at r1 r2 r5 r6 r4 ⊢
    rw [hr]at r1 r2 r5 r6 r4 ⊢
    rw [hdd,hu]at b5
    rw [hu]at r2 r5 ⊢
    clear hy hk h2 hD hms hrun' hD' hyo hO hO2 spop sl sop hset e0 e1 e2 e3 e4 e5 e6 e7 f0 f1 f2 f4 fr i4 hnd r3
    generalize stI A lv st l i=T at *
    generalize aT A k=tt at *
    have E0:=a5.pb.e0
    have E1:=a5.pb.e1
    have E2:=a5.pb.e2
    have E3:=a5.pb.e3
    have E5:=a5.e5
    have E6:=a5.e6
    have E7:=a5.e7
    have F1:=a5.pb.fr _ _ a1
    have F2:=a5.pb.fr _ _ a2
    have F4:=a5.pb.fr _ _ a4
    have x0:¬M=M5:=by omega
    have x1:¬M+1=M5:=by omega
    have x2:¬M+2=M5:=by omega
    have x3:¬M+3=M5:=by omega
    have x7:¬M+7=M5:=by omega
    have y0:¬M5=M:=by omega
    have y2:¬M5=M+2:=by omega
    have yi:¬i1=M5:=by omega
    have yj:¬M5=i1:=by omega
    have z1:¬g1=M5:=by omega
    have z2:¬g2=M5:=by omega
    have z4:¬g4=M5:=by omega
    have zi:¬id=M5:=by omega
    have hO7:=((a5.high r0 (n:=M5) (x:=some (.arr 0 4 [.agg [I 0,I 0,I 0,I 0]])) (by omega)).high r0 (n:=M5) (x:=some (.arr 0 4 [.agg [I (u:Nat),I (tt:Nat),I (A.getD k dA).2.2.1,I (aP A k)]])) (by omega)).farS r0 (T.far.set tt X) (T.last.set tt (k:Int))
    have hPu:=Acl (ob:=Ab (Ab (Ab (Ab O6 M5 (some (.arr 0 4 [.agg [I 0,I 0,I 0,I 0]]))) M5 (some (.arr 0 4 [.agg [I (u:Nat),I (tt:Nat),I (A.getD k dA).2.2.1,I (aP A k)]]))) M (some (.arr 0 1 ((T.far.set tt X).map (mt .i64))))) (M+2) (some (.arr 0 1 ((T.last.set tt (k:Int)).map (mt .i64))))) (M:=M5+1) (qid:=M+6) (qg:=0) (aid:=M+5) (g:=g') (q:=T.q) (tl:=tl') (X,tt) rfl rfl
     ⟨⟨hO7.e6, hO7.e5,by dsimp only;rw[cu];omega,by dsimp only;omega,by dsimp only;omega⟩,by dsimp only;rw[cu];omega⟩
    have hlq:T.q.length+1+(psQ ⟨M+6,0,M+5,g',T.q,tl',(X,tt),0,0⟩).2.length<=m00:=by
     unfold psQ
     dsimp only
     split
     .simp only[List.length_nil];omega
     .rename_i h
      have : 0<tl'.length:=List.length_pos_iff.2 h
      dsimp only
      rw [List.length_tail];omega
    generalize psQ ⟨M+6,0,M+5,g',T.q,tl',(X,tt),0,0⟩=PQ at *
    obtain ⟨g9,tl9⟩:=PQ
    dsimp only at hPu hlq
    have hO8:=hO7.hp r0 g9 (G6 T.q (X,tt)) tl9
    have ui:∀x o,O6 x=some o->(x=i1\/x=id)->hpO (Ab (Ab (Ab (Ab O6 M5 (some (.arr 0 4 [.agg [I 0,I 0,I 0,I 0]]))) M5 (some (.arr 0 4 [.agg [I (u:Nat),I (tt:Nat),I (A.getD k dA).2.2.1,I (aP A k)]]))) M (some (.arr 0 1 ((T.far.set tt X).map (mt .i64))))) (M+2) (some (.arr 0 1 ((T.last.set tt (k:Int)).map (mt .i64))))) (M+6) 0 (M+5) g9 (G6 T.q (X,tt)) tl9 x=some o:=λx o hx hxx=>by
     have e1:¬x=M+6:=λe=>by
      rcases hxx with h | h
      .omega
      .rw [<-h,e,E6]at c5;cases c5
     have e2:¬x=M+5:=λe=>by
      rcases hxx with h | h
      .omega
      .rw [<-h,e,E5]at c5;cases c5
     have e3:¬x=M+2:=λe=>by
      rcases hxx with h | h
      .omega
      .rw [<-h,e,E2]at c5;cases c5
     have e4:¬x=M:=λe=>by
      rcases hxx with h | h
      .omega
      .rw [<-h,e,E0]at c5;cases c5
     have e5:¬x=M5:=by rcases hxx with h | h <;> omega
     simp only[hpO,Ab,if_neg e1,if_neg e2,if_neg e3,if_neg e4,if_neg e5,hx]
    have u1:=ui _ _ b5 (.inl rfl)
    have u2:=ui _ _ c5 (.inr rfl)
    clear ui
    generalize hpO (Ab (Ab (Ab (Ab O6 M5 (some (.arr 0 4 [.agg [I 0,I 0,I 0,I 0]]))) M5 (some (.arr 0 4 [.agg [I (u:Nat),I (tt:Nat),I (A.getD k dA).2.2.1,I (aP A k)]]))) M (some (.arr 0 1 ((T.far.set tt X).map (mt .i64))))) (M+2) (some (.arr 0 1 ((T.last.set tt (k:Int)).map (mt .i64))))) (M+6) 0 (M+5) g9 (G6 T.q (X,tt)) tl9=O8 at *
    have hpu:=Pa (l:=T.q) (x:=(X,tt))
    by_cases c:T.far.getD tt 0<0
    .rw [if_pos (.inl c)]at r1 r2 r5 r6 r4 ⊢
     simp only[↓bdD,bdP,seval,kp,kd,ty3,Aih,AR,Ls,MG,Em,Iz,DX,I7,Re,CM,hPu,c,b5,hnA,hTl,hTa,vu,hto,w1,w2,w3,hkA,hN,E0,E1,E2,E3,E7,F1,F2,F4,x0,x1,x2,x3,x7,y0,y2,yi,z1,z2,t2,t5,t7,DX]
     refine ⟨u2,by omega,g9,tl9,dp3,hO8,⟨u1,by omega⟩,⟨_,r1⟩,r2,r5,by rw[hpu];exact hlq,r6⟩
    by_cases c2:X<T.far.getD tt 0
    .rw [if_pos (.inr c2)]at r1 r2 r5 r6 r4 ⊢
     simp only[↓bdD,bdP,seval,kp,kd,ty3,Aih,AR,Ls,MG,Em,Iz,DX,I7,Re,CM,hPu,c,c2,b5,hnA,hTl,hTa,vu,hto,w1,w2,w3,hkA,hN,E0,E1,E2,E3,E7,F1,F2,F4,x0,x1,x2,x3,x7,y0,y2,yi,z1,z2,t2,t5,t7,DX]
     refine ⟨u2,by omega,g9,tl9,dp3,hO8,⟨u1,by omega⟩,⟨_,r1⟩,r2,r5,by rw[hpu];exact hlq,r6⟩
    .rw [if_neg (by intro h;rcases h with h | h;exact c h;exact c2 h)]at r1 r2 r5 r6 r4 ⊢
     simp only[↓bdD,bdP,seval,kp,kd,ty3,AR,Ls,MG,Em,Iz,I7,CM,c,c2,b5,hnA,hTl,vu,hto,w1,w2,w3,hkA,hN,E0,E1,F1,F2,F4,x0,x1,yi,z1,z2,zi,c5]
     refine ⟨by omega,g',tl',dp3,?_,by omega,⟨_,r1⟩,r2,r5,hl1,r6⟩
     exact (a5.high r0 (by omega)).high r0 (by omega)
   .rintro ⟨O5,M5⟩ ⟨g',tl',dp2,a,⟨b1,b2⟩,⟨E,hDE⟩,hdn,hfar,hl1,hl2⟩
    have hse:EQ A out lv st=stI A lv st l (GO A l).length:=by
     unfold EQ stI
     rw [if_neg hd,hl,r7,VF]
    simp only[ow]at a hl1 b2
    rw [<-hse]at a hl1
    simp only[↓bdD,bdP,r8]
    exact ⟨E4 out (EQ A out lv st),by omega,_,_,EQ A out lv st,d',dp',g',tl',rfl,by omega,a,hD',rfl,hrun',hl1,by omega⟩
   .exact λi S h=>h.elim
   .exact λS h=>h.elim
 .have hfin:st=IE A out lv N s:=by
   rw [<-hrun]
   cases m with
   | zero=>rfl
   | succ m=>simp only[J3];rw[if_pos (by omega)]
  obtain ⟨dpF,hF⟩:=SU h2
  unfold Dj lvM at hR
  rw [<-hfin]at hF hR
  have hqi:¬(0:Int)<(st.q.length:Int):=by omega
  have hnd:=MP (l:=st.done) (k:=t) (by rw[hF.ld];exact h3)
  have hdl:=hF.ld
  have hfl:=hF.lf
  by_cases ht:st.done.getD t true=true
  .rw [if_pos ht]at hR
   simp only[↓bdD,bdP,seval,ty4,AR,O0,DX,Do,sl,hqi,hnd,ht,hdl,h3,e0,e1,e4,e6,e7,Do,DX]
   refine Aw [16,149,150,151,152,153,154,155,156,157,158,159,160,161,162,163,164,165,166,167,168,169] N (λj ρ st'=>ρ 149=I j/\∃O',st'=⟨O',nx⟩/\PM (Ab ob g1 (some (.arr 1 1 ((lvK lv st N j).map (mt .i64))))) M N st g tl O') (.refl _) ?_ ?_
   .simp only[↓bdD,bdP]
    refine ⟨O,rfl,?_⟩
    rw [Am2 hN,JA a1]
    exact hO
   clear hO e0 e1 e2 e3 e4 e5 e6 e7 fr f0 f1 f2 f4 sl
   rintro j ρ3 st' hj ⟨h149,O',rfl,hO⟩
   have e0:=hO.pb.e0
   have e1:=hO.pb.e1
   have e2:=hO.pb.e2
   have e3:=hO.pb.e3
   have e4:=hO.e4
   have fr:=hO.pb.fr
   have hg12:¬g2=g1:=by omega
   have hg42:¬g4=g1:=by omega
   have f1:=fr g1 _ (by simp only[Ab,if_true];rfl)
   have f2:=fr g2 _ (by simp only[Ab,if_neg hg12];exact a2)
   have f4:=fr g4 _ (by simp only[Ab,if_neg hg42];exact a4)
   have hlvl:=DH (lv:=lv) (st:=st) (N:=N) (j:=j)
   by_cases hlt:j<N
   .have hwk:=Cu (k:=j) (by omega)
    have hnj:=MP (l:=st.done) (k:=j) (by rw[hF.ld];exact hlt)
    by_cases hdj:st.done.getD j true=true
    .have hat:(lvK lv st N j).getD j 0=lv.getD j 0:=by rw[KA hlt,if_neg (by omega)]
     have hst:=sZ (lv:=lv) hlt hdj
     have hb:=h9 j
     have hm2:=hF.mag j hlt ((hF.don j hlt).1 hdj)
     have hw:nm.wrap (lv.getD j 0+st.far.getD j 0)=lv.getD j 0+st.far.getD j 0:=Af (by omega) (by omega)
     simp only[↓bdD,bdP,seval,kd,ty3,ty4,AR,Ls,Em,O0,h149,hlt,hwk,hnj,hdj,hlvl,hat,hst,hw,hdl,hfl,e0,e1,e4,f1,f2]
     refine ⟨_,rfl,?_⟩
     have := hO.level (i:=g1) (by omega) (some (.arr 1 1 ((lvK lv st N (j+1)).map (mt .i64)))) _ (by rw[Av])
     rw [Av]at this
     exact this
    .have hsk:=sW (lv:=lv) (st:=st) (N:=N) hdj
     simp only[↓bdD,bdP,seval,ty4,O0,h149,hlt,hwk,hnj,hdj,hdl,e4]
     rw [hsk]
     exact ⟨_,rfl,hO⟩
   have e:N=j:=by omega
   subst e
   have hlm:lvK lv st N N=lvN lv st N:=Am3
   rw [hlm]at hO
   have hrt:=(hF.don t h3).1 ht
   have r9:∀i o,Ab ob g1 (some (.arr 1 1 ((lvN lv st N).map (mt .i64)))) i=some o->i<M:=λi o hi=>by
    simp only[Ab]at hi
    split at hi
    .omega
    .exact r0 i o hi
   clear hlt hlvl f1 e0 e1 e4
   simp only[↓bdD,bdP,seval,h149]
   refine Et [17,18,171,172,173,174,175,176,177,178,179,180,181,182,183,184,185,186,187,188,189,190,191] N (λf ρ st'=>∃v pre gn O2,ρ 18=I (v:Nat)/\ρ 17=.ref nx gn 0 pre.length/\st'=⟨O2,nx+1⟩/\O2 nx=some (.arr gn 1 (Ch pre))/\PM (Ab ob g1 (some (.arr 1 1 ((lvN lv st N).map (mt .i64))))) M N st g tl O2/\v<N/\Rch A s v/\dpF v<=f/\pre.length+f<=N/\pre++Fg A st.last s f v=Fg A st.last s N t) (.slot _ 17 1 ?_ ?_) ?_ ?_
   .simp only[↓bdD,bdP,r8]
   .decide
   .simp only[↓bdD,bdP,r8,kp]
    exact ⟨t,[],0,_,rfl,rfl,rfl,by simp[Ab,Ch],hO.high r9 (by omega),h3,hrt,Nat.le_of_lt (hF.dpN t h3 hrt),by simp,by simp⟩
   clear hO f2 f4 e2 e3 fr h149
   rintro f ρ4 st' ⟨v,pre,gn,O2,r18,r17,rfl,ho17,hO,hv,hrv,hdv,hlen2,hpre⟩
   have e2:=hO.pb.e2
   have e3:=hO.pb.e3
   have fr:=hO.pb.fr
   have f2:=fr g2 _ (by simp only[Ab,if_neg hg12];exact a2)
   have f4:=fr g4 _ (by simp only[Ab,if_neg hg42];exact a4)
   have hnp:(Ch pre).length=pre.length:=G8
   by_cases hvs:v=s
   .have hpf:Fg A st.last s f v = []:=by
     cases f with
     | zero=>rfl
     | succ f=>simp only[Fg];rw[if_pos hvs]
    rw [hpf,List.append_nil]at hpre
    have hvi:(v:Int)=(s:Int):=by rw[hvs]
    simp only[↓bdD,bdP,seval,Ao,r17,r18,hvi]
    rw [<-hR,<-hpre]
    refine ⟨[nx],.inr ?_,λi o hi=>?_,cg _,.lits _ _ λe he c hc=>?_⟩
    .simp [rdP,rdC,Store.only,Store.arr?,ho17,tA,hnp]
     exact sa (by rw[hnp];exact cg _)
    .rw [<-hg1]at hi
     have hlt9:=r9 i o hi
     refine ⟨hlt9,?_,fr i o hi,?_⟩
     .have : ¬i=nx:=by omega
      simp [this]
     .simp only[Ab]at hi
      split at hi
      .cases hi
       exact .inr λe he c hc=>by
        obtain ⟨x,_,rfl⟩:=oh.1 he
        simp only[PV.cells,ku]at hc
        rw [hc];exact .int _ _
      .exact .inl hi
    .obtain ⟨x,_,rfl⟩:=oh.1 he
     simp only[PV.cells,ku]at hc
     rw [hc];exact .int _ _
   .obtain ⟨k,k1,k2,k3,k4,k5,k6,k7⟩:=hF.par v hv hrv hvs
    obtain ⟨f1,rfl⟩:∃x,f=x+1:=⟨f-1,by omega⟩
    have hvi:¬(v:Int)=(s:Int):=by omega
    have hnA:=ER k2
    have hll:=hF.ll
    have hpf:Fg A st.last s (f1+1) v=k::Fg A st.last s f1 (aF A k):=by
     simp only[Fg]
     rw [if_neg hvs,k1,Int.toNat_natCast]
    have eF:(A.getD k dA).1=aF A k:=rfl
    have hb1:¬pre.length+1<=pre.length:=by omega
    have hb2:pre.length+1<=2147483648:=by omega
    have m8:M+2<nx:=by omega
    have y2:¬M+2=nx:=by omega
    have y3:¬M+3=nx:=by omega
    have y4:¬g2=nx:=by omega
    have y5:¬g4=nx:=by omega
    simp only[↓bdD,bdP,seval,kd,ty3,AR,Ls,MG,Em,Iz,r17,r18,hvi,k1,hv,hnp,hnA,eF,k2,hll,ho17,hb1,hb2,y2,y3,y4,y5,e2,e3,f2,f4,Nat.mul_one]
    refine ⟨f1,by omega,aF A k,pre ++ [k],gn+1,_,rfl,by rw[cu];rfl,rfl,?_,hO.high r9 (by omega),(h2.ar k k2).1,k5,by omega,by rw[cu,se];omega,by rw[co];rw[hpf]at hpre;exact hpre⟩
    simp only[Ab,if_true]
    rw [VG,sa (by rw[hnp];exact cg _)]
  .rw [if_neg ht]at hR
   simp only[↓bdD,bdP,seval,Ao,ty4,O0,DX,Do,sl,hqi,hnd,ht,hdl,h3,e4,e6,e7,Do,DX]
   rw [<-hR]
   exact ⟨[],.inl rfl,λi o hi=>⟨r0 i o hi,rfl,fr i o hi,.inl hi⟩,cg _,.nils⟩
theorem tB {k:Nat}:k ^^^ 1=rv k:=by
 have h1:(k ^^^ 1) / 2=k / 2:=by rw[Nat.xor_div_two];simp
 have h2:(k ^^^ 1) % 2=(k+1) % 2:=by
  have := Nat.xor_mod_two_pow (a:=k) (b:=1) (n:=1)
  simp only[Nat.pow_one]at this
  rw [this]
  rcases sg k with h | h
  .rw [h];show 1=_;omega
  .rw [h];show 0=_;omega
 unfold rv
 split <;> omega
def Ai1 (a b:Int):Int:=nm.wrap (ap 64 a ^^^ ap 64 b).toNat
theorem Aco {a b:Int}:Cw .xor .i64 a b=some (Ai1 a b):=nrfl rfl
theorem Acp {k:Nat} (h:k<4611686018427387904):Ai1 (k:Int) 1=((rv k:Nat):Int):=by
 unfold Ai1
 rw [<-tB]
 have e:(ap 64 (k:Int) ^^^ ap 64 1).toNat=k ^^^ 1:=by
  rw [BitVec.toNat_xor]
  congr 1
  rw [BitVec.toNat_ofInt]
  omega
 rw [e]
 have hb:rv k<=k+1:=by unfold rv;split <;> omega
 rw [tB]
 exact Af (by omega) (by omega)
theorem Ai2 (x y:GP) (st:Store) (h:MR x=MR y) (hx:MQ x st) (hy:MQ y st):Jc x st=Jc y st:=by
 obtain ⟨B,A,out,lv,s,t⟩:=x
 obtain ⟨B',A',out',lv',s',t'⟩:=y
 simp only[MR,gP,ix,and_true,rq,qt,true_and]at h
 have e1:B=B':=by omega
 have e2:s=s':=by omega
 have e3:t=t':=by omega
 subst e1;subst e2;subst e3
 have g:=hx.1
 have g':=hy.1
 dsimp only at g g'
 have e4:=g.o4.symm.trans g'.o4
 simp only[bp,q8,Pf,true_and]at e4
 have e5:=g.o1.symm.trans g'.o1
 simp only[bp,q8,true_and]at e5
 have e5:lv=lv':=GZ (λx y h=>by injection h) e5
 have e0:=g.o2.symm.trans g'.o2
 simp only[J4,bp,q8,ix,PV.agg.injEq,PV.ref.injEq,true_and,and_true]at e0
 have e6:out=out':=by
  refine ru e0.2.1 λu h1 h2=>?_
  have q:=(g.o5 u h1).symm.trans (g'.o5 u h2)
  simp only[bp,q8,Pk,true_and]at q
  have q:=q.2
  rwa [oa,oa,gl h1,gl h2]at q
 rw [e4.2,e5,e6]
theorem Ai3 {B s t:Nat} {A:List Arc} {out:List (List Nat)} {lv:List Int} {st:Store} (h:MQ ⟨B,A,out,lv,s,t⟩ st):A9 MR MQ Jc [gP B,I (s:Nat),I (t:Nat)] st=some (Jc ⟨B,A,out,lv,s,t⟩ st) :=
 Bc Ai2 (i:=⟨B,A,out,lv,s,t⟩) h
structure GE where
 B : Nat
 A : List Arc
 out : List (List Nat)
 lv : List Int
 m : Nat
 s : Nat
 t : Nat
 b : Int
def MS (x:GE) (st:Store):Prop:=GrAt x.B x.A x.out x.lv st.obj/\SI x.A x.out x.lv x.lv.length x.m x.s x.t 0/\x.B+5+x.lv.length<=st.next/\WF st/\(∀i r,st.obj i≠some (.lp r)) /\
 x.lv.length <= 100000/\x.A.length<=1000000/\E4 x.out (ini x.lv.length x.s)<=100000000/\0<=x.b/\x.b<=1099511627776/\∀i,(fnA x.A x.lv.length x.s x.t).cap i<=1099511627776
def MT (x:GE):List PV := [gP x.B,I (x.s:Nat),I (x.t:Nat),I x.b]
def KB (x:GE) (st:Store):PV×Store:=(I (D0 x.A x.out x.lv x.lv.length x.s x.t x.b).2,⟨Ab (Ab st.obj (x.B+4) (some (.arr (x.A.length / 2) 4 ((D0 x.A x.out x.lv x.lv.length x.s x.t x.b).1.map E8)))) (x.B+1) none,st.next⟩)
def e_send:Nat×Ent:=(69,.x (A9 MT MS KB))
def sO (ob:Nat->Option IObj) (B n:Nat) (A:List Arc) (lv:List Int):Nat->Option IObj:=Ab (Ab ob (B+4) (some (.arr n 4 (A.map E8)))) (B+1) (some (.arr 1 1 (lv.map (mt .i64))))
section
variable {ob:Nat->Option IObj}
theorem tC {B:Nat} {A A':List Arc} {out:List (List Nat)} {lv lv':List Int} (h:GrAt B A out lv ob) (h1:A'.length=A.length) (h2:lv'.length=lv.length):GrAt B A' out lv' (sO ob B (A.length / 2) A' lv'):=by
 refine ⟨?_,?_,?_,?_,λu hu=>?_⟩
 .simp only[sO,Ab];rw[if_neg (by omega),if_neg (by omega)];exact h.o0
 .simp only[sO,Ab,if_true]
 .simp only[sO,Ab];rw[if_neg (by omega),if_neg (by omega),h.o2];simp only[J4,h1,h2]
 .simp only[sO,Ab];rw[if_neg (by omega),if_pos trivial,h1]
 .simp only[sO,Ab];rw[if_neg (by omega),if_neg (by omega)];exact h.o5 u hu
theorem Acq {B:Nat} {A:List Arc} {out:List (List Nat)} {lv:List Int} (h:GrAt B A out lv ob):sO ob B (A.length / 2) A lv=ob:=by
 unfold sO
 rw [JA h.o4,JA h.o1]
theorem Ai4 {B n:Nat} {A A':List Arc} {lv:List Int}:Ab (sO ob B n A lv) (B+4) (some (.arr n 4 (A'.map E8)))=sO ob B n A' lv:=by
 funext i
 simp only[sO,Ab]
 by_cases c1:i=B+4
 .have c2:¬i=B+1:=by omega
  rw [if_pos c1,if_neg c2,if_pos c1]
 .rw [if_neg c1,if_neg c1,if_neg c1]
end
theorem jG {A:List Arc} {b:Int} {P:List Nat} {k:Nat} (h:k<P.length):Dp A b (P.take (k+1))=if aL A (P.getD k 0)<Dp A b (P.take k)then aL A (P.getD k 0)else Dp A b (P.take k):=by
 unfold Dp
 rw [rr h,rt]
 simp [h]
theorem tD {A:List Arc} {p:Int} {P:List Nat} {k:Nat} (h:k<P.length):aug A p (P.take (k+1))=Dx (aug A p (P.take k)) p (P.getD k 0):=by
 unfold aug
 rw [rr h,rt]
 simp [h]
theorem ZE {p:Int} {n:Nat} (h0:0<=p) (h1:p<=1099511627776) (hn:n<=100000):0<=p*(n:Int)/\p*(n:Int)<=109951162777600000:=by
 refine ⟨Int.mul_nonneg h0 (by omega),?_⟩
 have := Int.mul_le_mul h1 (show (n:Int)<=100000 by omega) (by omega) (by omega)
 omega
theorem ZF {A:List Arc} {k:Nat} {x:Int}:(A.map E8).set k (.agg [I ((A.getD k dA).1:Nat),I ((A.getD k dA).2.1:Nat),I ((A.getD k dA).2.2.1+x),I (A.getD k dA).2.2.2])=(FO A k x).map E8:=by
 unfold FO
 rw [rx]
theorem S7 {K:Nat->Prop} {g z:Nat} {A:List Arc}:OIn K (.arr g z (A.map E8)):=λe he c hc=>by
 obtain ⟨x,_,rfl⟩:=oh.1 he
 simp only[PV.cells,List.mem_cons,List.not_mem_nil,or_false]at hc
 rcases hc with hc | hc | hc | hc <;> (rw[hc];exact .int _ _)
theorem Rl {ob:Nat->Option IObj} {M B n:Nat} {A:List Arc} {lv:List Int} {r r':Int} (r0:∀i o,ob i=some o->i<M) (hB:B+4<M) (hr:r'=r):OT ⟨ob,M⟩ (I r) ⟨Ab (Ab ob (B+4) (some (.arr n 4 (A.map E8)))) (B+1) none,M⟩ (I r') ⟨sO ob B n A lv,M⟩:=by
 refine ⟨[],.inl (by rw[hr]),λi o hi=>?_,cg _,.int _ _⟩
 simp only[sO,Ab]at hi ⊢
 by_cases c1:i=B+1
 .rw [if_pos c1]at hi;cases hi
 .rw [if_neg c1]at hi ⊢
  by_cases c2:i=B+4
  .rw [if_pos c2]at hi ⊢
   cases hi
   exact ⟨by omega,rfl,rfl,.inr S7⟩
  .rw [if_neg c2]at hi ⊢
   exact ⟨r0 i o hi,rfl,hi,.inl hi⟩
theorem tE:AM pk e_send.1 e_send.2:=Fy λx st hx=>by
 obtain ⟨B,A,out,lv,m,s,t,b⟩:=x
 obtain ⟨ob,M⟩:=st
 unfold MS at hx
 dsimp only at hx
 obtain ⟨h1,h2,h4,h5,h6,h7,h8,h10,h11,h12,h13⟩:=hx
 obtain ⟨N,hN⟩:∃N,lv.length=N:=⟨_,rfl⟩
 simp only[MT,KB]
 rw [hN]at h2 h4 h7 h10 h13 ⊢
 have hsR:=Zy (bytes:=b) h2
 obtain ⟨AE,hAE⟩:∃x,(D0 A out lv N s t b).1=x:=⟨_,rfl⟩
 obtain ⟨rE,hrE⟩:∃x,(D0 A out lv N s t b).2=x:=⟨_,rfl⟩
 rw [hAE,hrE]at hsR
 rw [hAE,hrE]
 have r0:∀i o,ob i=some o->i<M:=h5
 refine BT AQ (l := [e_path]) ((Ad Ai0 Au)) [] [] 0 Tryz.func69 rfl (by decide +kernel) (N:=81) rfl (by simp) rfl (by kernel_rfl) ?_
 simp only[↓bdD,bdP,Nat.reduceLT,e_path,Tryz.f69]
 refine Et [9,10,11,13,15,16,17,18,19,20,21,22,23,24,25,26,27,28,29,30,31,32,33,34,35,36,37,38,39,40,41,42,43,44,45,46,47,48,49,50,51,52,53,54,55,56,57,58,59,60,61,62,63,64,65,66,67,68,69,70,71,72,73,74,75,76,77,78,79] b.toNat (λμ ρ st'=>∃A' lv' sent,ρ 9=I sent/\st'=⟨sO ob B (A.length / 2) A' lv',M⟩/\SI A' out lv' N m s t sent/\A'.length=A.length/\sent<=b/\(b-sent).toNat=μ/\fnA A' N s t=fnA A N s t/\0<=sent/\SendR out N s t b A' lv' sent AE rE) (.refl _) ?_ ?_
 .simp only[↓bdD,bdP]
  exact ⟨A,lv,by rw[Acq h1],h2,rfl,h11,by rw[Int.sub_zero],rfl,hsR⟩
 rintro μ ρ st' ⟨A',lv',sent,r9,rfl,hS,hl,hsb,hμ,hfn,hs0,hR⟩
 have hgr:=tC (A':=A') (lv':=lv') h1 hl (by rw[hS.ll,hN])
 have hll:=hS.ll
 by_cases hlt:sent<b
 .have hlvb:∀v,-1000000000000<=lv'.getD v 0/\lv'.getD v 0<=1000000000000:=λv=>by
   by_cases c:v<N
   .have := hS.lvb v c
    omega
   .rw [oa,List.getElem?_eq_none (by omega)]
    decide
  have hne:∀i o,sO ob B (A.length / 2) A' lv' i=some o->i<M/\∀r,o≠.lp r:=λi o hi=>by
   simp only[sO,Ab]at hi
   by_cases c1:i=B+1
   .rw [if_pos c1]at hi;cases hi;exact⟨by omega,by simp⟩
   .rw [if_neg c1]at hi
    by_cases c2:i=B+4
    .rw [if_pos c2]at hi;cases hi;exact⟨by omega,by simp⟩
    .rw [if_neg c2]at hi
     exact ⟨r0 i o hi,λr e=>h6 i r (by rw[hi,e])⟩
  have sp:=Ai3 (B:=B) (A:=A') (out:=out) (lv:=lv') (s:=s) (t:=t) (st:=⟨sO ob B (A.length / 2) A' lv',M⟩) ⟨hgr,by dsimp only;rw[hll];exact hS.gr,by dsimp only;rw[hll];exact hS.tN,λe=>hS.st e.symm,by dsimp only;rw[hll];exact h4,λi o hi=>(hne i o hi).1,λi r hi=>(hne i _ hi).2 r rfl,by dsimp only;rw[hll];exact h7,by dsimp only;rw[hl];exact h8,hlvb,by dsimp only;rw[hll];exact h10⟩
  have hRp:Jc ⟨B,A',out,lv',s,t⟩ ⟨sO ob B (A.length / 2) A' lv',M⟩=if (IE A' out lv' N s).done.getD t true=true then (.lits 1 (Ch (Dj A' out lv' N s t)),⟨Ab (sO ob B (A.length / 2) A' lv') (B+1) (some (.arr 1 1 ((lvM A' out lv' N s).map (mt .i64)))),M⟩)else (.nils,⟨sO ob B (A.length / 2) A' lv',M⟩):=by
   unfold Jc
   dsimp only
   rw [hll]
  rw [hRp]at sp
  clear hRp
  unfold gP at sp
  by_cases hd:(IE A' out lv' N s).done.getD t true=true
  .rw [if_pos hd]at sp
   have hO:Ab (sO ob B (A.length / 2) A' lv') (B+1) (some (.arr 1 1 ((lvM A' out lv' N s).map (mt .i64))))=sO ob B (A.length / 2) A' (lvM A' out lv' N s):=by unfold sO;rw[Av]
   rw [hO]at sp
   obtain ⟨hS2,hp0,hp1⟩:=Pd hS hlt hd
   have hR2:SendR out N s t b (aug A' (Dp A' (b-sent) (Dj A' out lv' N s t)) (Dj A' out lv' N s t)) (lvM A' out lv' N s) (sent+Dp A' (b-sent) (Dj A' out lv' N s t)) AE rE:=by
    cases hR with
    | full _ _ _ g=>exact absurd hlt g
    | stop _ _ _ _ g=>rw[hd]at g;cases g
    | step _ _ _ _ _ _ _ g=>exact g
   have hpo:=NQ hS.gr ((Lz hS).1 hd)
   have hfn2:=MI (N:=N) (s:=s) (t:=t) (p:=Dp A' (b-sent) (Dj A' out lv' N s t)) hS.wp (P:=Dj A' out lv' N s t) (λk hk=>by have:=(hpo.arc k hk).1;rw[<-hS.wp.len];exact this)
   have hlm:(lvM A' out lv' N s).length=N:=(Agi hS.gr).1
   obtain ⟨P,hP⟩:∃P,Dj A' out lv' N s t=P:=⟨_,rfl⟩
   rw [hP]at sp hS2 hp0 hp1 hR2 hpo hfn2
   have hPne:P ≠ []:=λe=>by
    rw [e]at hpo
    have := hpo.isP
    generalize hw:([]:List Nat)=w at this
    cases this with
    | nil=>exact hS.st rfl
    | cons k Q _=>cases hw
   obtain ⟨k0,P0,hPc⟩:∃k0 P0,Ch P=I (k0:Nat)::Ch P0:=by
    cases P with
    | nil=>exact absurd rfl hPne
    | cons k0 P0=>exact⟨k0,P0,rfl⟩
   have hnc:∀ {op:BinOp} {ok:Bool} {A:Prop} {K:PV->Prop},SJ (.lits 1 (Ch P)) op ok A K=A:=by intros;rw[hPc];rfl
   have hbn:BU pk .eql 33 (.lits 1 (Ch P)) .nils=some (.bool false):=by rw[hPc,qS];simp only[AR];rfl
   clear hPc
   generalize lvM A' out lv' N s=lv2 at *
   have hw0:nm.wrap (b-sent)=b-sent:=Af (by omega) (by omega)
   have hcapA:∀i,aL A' (2*i)+aL A' (2*i+1)<=1099511627776:=λi=>by
    have e:(fnA A' N s t).cap i=(fnA A N s t).cap i:=by rw[hfn]
    have := h13 i
    rw [<-e]at this
    exact this
   have hcap:∀j,j<A'.length->0<=aL A' j/\aL A' j<=1099511627776:=λj hj=>by
    rw [hS.wp.len]at hj
    have n0:=hS.wp.nn j hj
    have n1:=hS.wp.nn (2*(j / 2)) (by omega)
    have n2:=hS.wp.nn (2*(j / 2)+1) (by omega)
    have := hcapA (j / 2)
    refine ⟨n0,?_⟩
    rcases sg j with h | h
    .rw [show 2*(j / 2)=j by omega]at this n1 n2
     omega
    .rw [show 2*(j / 2)+1=j by omega]at this n2
     omega
   have hg2:=tC (A':=A') (lv':=lv2) h1 hl (by rw[hlm,hN])
   have G2:=hg2.o2
   have G4:=hg2.o4
   unfold J4 at G2
   rw [hl]at G4 G2
   have hPl:P.length<=1000000000:=by
    have := Dm N (P.map (aT A')) hpo.nd (λx hx=>by
     obtain ⟨k,hk,rfl⟩:=oh.1 hx
     exact (hS.ar k (hpo.arc k hk).1).2)
    rw [ow]at this
    omega
   have hnPl:(Ch P).length=P.length:=G8
   have hmemP:∀k,k<P.length->P.getD k 0∈P:=λk hk=>by
    have e:P.getD k 0=P[k]:=by simp[hk]
    rw [e];exact List.getElem_mem _
   simp only[↓bdD,bdP,seval,Ao,ty3,AR,Ls,r9,hlt,sp,hnc,hbn,hw0]
   refine Aw [11,13,30,31,32,33,34,35,36,37,38,39,40,41,42,43,44] P.length (λk ρ st'=>ρ 30=I k/\ρ 11=I (Dp A' (b-sent) (P.take k))/\st'=⟨sO ob B (A.length / 2) A' lv2,M⟩) (.refl _) ?_ ?_
   .simp only[↓bdD,bdP,r8]
    rfl
   rintro k ρ5 st' hk ⟨h30,h11',rfl⟩
   by_cases hkl:k<P.length
   .have hwk:=Cu (k:=k) (by omega)
    have hnk:=Pj hkl
    have hj:=(hpo.arc _ (hmemP k hkl)).1
    have hps:=jG (A:=A') (b:=b-sent) hkl
    have haL:(A'.getD (P.getD k 0) dA).2.2.1=aL A' (P.getD k 0):=rfl
    generalize P.getD k 0=j at *
    have hnA:=ER hj
    rw [haL]at hnA
    rw [hl]at hj
    simp only[↓bdD,bdP,seval,ty3,AR,MG,Em,Iz,h30,h11',hkl,hwk,hnk,hnPl,hnA,hj,hl,G2,G4]
    exact hps.symm
   have e:P.length=k:=by omega
   subst e
   rw [r7]at h11'
   obtain ⟨p,hpp⟩:∃p,Dp A' (b-sent) P=p:=⟨_,rfl⟩
   rw [hpp]at h11' hS2 hp0 hp1 hR2 hfn2
   clear G4
   simp only[↓bdD,bdP,seval,AR,h30,hnPl]
   refine Aw [15,47,48,49,50,51,52,53,54,55,56,57,58,59,60,61,62,63,64,65,66,67,68,69,70,71,72,73,74,75,76] P.length (λk ρ st'=>ρ 47=I k/\st'=⟨sO ob B (A.length / 2) (aug A' p (P.take k)) lv2,M⟩) (.refl _) ?_ ?_
   .simp only[↓bdD,bdP]
    rfl
   rintro k ρ6 st' hk2 ⟨h47,rfl⟩
   have hal:∀k,(aug A' p (P.take k)).length=A.length:=λk=>by rw[Ec,hl]
   by_cases hkl2:k<P.length
   .have hwk:=Cu (k:=k) (by omega)
    have hnk:=Pj hkl2
    have hj:=(hpo.arc _ (hmemP k hkl2)).1
    have has:=tD (A:=A') (p:=p) hkl2
    have hgk:=tC (A':=aug A' p (P.take k)) (lv':=lv2) h1 (hal k) (by rw[hlm,hN])
    have G4:=hgk.o4
    rw [hal k]at G4
    have hPN:P.length<=100000:=by
     have := Dm N (P.map (aT A')) hpo.nd (λx hx=>by
      obtain ⟨k,hk,rfl⟩:=oh.1 hx
      exact (hS.ar k (hpo.arc k hk).1).2)
     rw [ow]at this
     omega
    have hbd:∀x,x<A'.length -> -300000000000000000<=aL (aug A' p (P.take k)) x/\aL (aug A' p (P.take k)) x<=300000000000000000:=λx hx=>by
     rw [Rh hS.wp.len (λy hy=>by have:=(hpo.arc y (List.mem_of_mem_take hy)).1;rw[<-hS.wp.len];exact this)]
     have q1:=hcap x hx
     have q2:=ZE (p:=p) (n:=(P.take k).count x) (by omega) (by omega) (Nat.le_trans rz (by rw[cw];omega))
     have q3:=ZE (p:=p) (n:=(P.take k).count (rv x)) (by omega) (by omega) (Nat.le_trans rz (by rw[cw];omega))
     omega
    generalize hAk:aug A' p (P.take k)=Ak at *
    have hAkl:Ak.length=A.length:=by rw[<-hAk];exact hal k
    clear hal
    generalize P.getD k 0=j at *
    have hrj:rv j<A'.length:=by rw[hS.wp.len]at hj ⊢;exact VB hj
    have hb1:=hbd _ hj
    have hb2:=hbd _ hrj
    rw [hl]at hj hrj
    have hne:=Agk (k:=j)
    have hxr:=Acp (k:=j) (by omega)
    have hnA:=ER (l:=Ak) (k:=j) (by omega)
    have hA1l:(FO Ak j (-p)).length=A.length:=by rw[FP,hAkl]
    have hnA1:=ER (l:=FO Ak j (-p)) (k:=rv j) (by omega)
    have hLr:aL (FO Ak j (-p)) (rv j)=aL Ak (rv j):=by rw[SV (by omega),if_neg hne]
    have w1:nm.wrap ((Ak.getD j dA).2.2.1-p)=(Ak.getD j dA).2.2.1 + -p:=by
     have : (Ak.getD j dA).2.2.1=aL Ak j:=rfl
     rw [this,Af (by omega) (by omega)];omega
    have w2:nm.wrap (((FO Ak j (-p)).getD (rv j) dA).2.2.1+p)=((FO Ak j (-p)).getD (rv j) dA).2.2.1+p:=by
     have : ((FO Ak j (-p)).getD (rv j) dA).2.2.1=aL (FO Ak j (-p)) (rv j):=rfl
     rw [this,hLr,Af (by omega) (by omega)]
    have hs1:=ZF (A:=Ak) (k:=j) (x := -p)
    have hs2:=ZF (A:=FO Ak j (-p)) (k:=rv j) (x:=p)
    have hau:FO (FO Ak j (-p)) (rv j) p=Dx Ak p j:=rfl
    have G9:sO ob B (A.length / 2) Ak lv2 (B+2)=some (.arr 0 3 [.agg [.ref (B+4) (A.length / 2) 0 A.length,.ref B 1 0 out.length,.ref (B+1) 1 0 lv2.length]]):=by
     have := hgk.o2
     unfold J4 at this
     rw [hAkl]at this
     exact this
    clear G2 hgk
    generalize rv j=rj at *
    generalize FO Ak j (-p)=A1 at *
    have u24:(B+2==B+4)=false:=by simp
    generalize hSO:sO ob B (A.length / 2) Ak lv2=SO at *
    simp only[↓bdD,bdP,seval,kd,ty3,AR,MG,Em,Iz,h47,h11',hkl2,hwk,hnk,hnPl,hnA,hnA1,hj,hrj,hAkl,hA1l,w1,w2,hs1,hs2,Aco,hxr,u24,G9,G4,Av]
    rw [has,<-hau,<-hSO,Ai4]
   .have e:k=P.length:=by omega
    subst e
    rw [r7]
    have hw9:nm.wrap (sent+p)=sent+p:=Af (by omega) (by omega)
    simp only[↓bdD,bdP,seval,h47,h11',hw9,r9]
    refine ⟨(b-(sent+p)).toNat,by omega,?_,aug A' p P,lv2,rfl,hS2,by rw[Ec,hl],by omega,rfl,by rw[hfn2,hfn],by omega,hR2⟩
    rw [AL (by decide +kernel)]
    simp only[↓bdD,bdP,r8]
    rw [AL (by decide +kernel)]
    simp only[↓bdD,bdP,r8]
  .have hh:A'=AE/\sent=rE:=by
    cases hR with
    | full _ _ _ g=>exact absurd hlt g
    | stop=>exact⟨rfl,rfl⟩
    | step _ _ _ _ _ _ g=>exact absurd g hd
   rw [if_neg hd]at sp
   simp only[↓bdD,bdP,seval,Ao,ty3,AR,Ls,r9,hlt,sp]
   rw [<-hh.1,<-hh.2]
   exact Rl r0 (show B+4<M by omega) rfl
 .have hh:A'=AE/\sent=rE:=by
   cases hR with
   | full=>exact⟨rfl,rfl⟩
   | stop _ _ _ g=>exact absurd g hlt
   | step _ _ _ _ _ g=>exact absurd g hlt
  simp only[↓bdD,bdP,seval,Ao,r9,hlt]
  rw [<-hh.1,<-hh.2]
  exact Rl r0 (show B+4<M by omega) rfl
end Sim
namespace Sim
def Gm (A:List Arc) (u v:Nat) (x y:Int):List Arc:=A ++ [(u,v,x,y),(v,u,0,-y)]
def ET (out:List (List Nat)) (u v n:Nat):List (List Nat):=(out.set u (out.getD u [] ++ [n])).set v (out.getD v [] ++ [n+1])
def gA (p:Nat->Arc):Nat->List Arc
 | 0 => []
 | n+1=>Gm (gA p n) (p n).1 (p n).2.1 (p n).2.2.1 (p n).2.2.2
def gO (p:Nat->Arc) (N:Nat):Nat->List (List Nat)
 | 0=>ba N []
 | n+1=>ET (gO p N n) (p n).1 (p n).2.1 (gA p n).length
section
variable {p:Nat->Arc} {N n:Nat}
theorem CN:∀ {n},(gA p n).length=2*n
 | 0=>rfl
 | n+1=>by rw[gA,Gm,cu,CN];simp;omega
theorem KC {k:Nat} (h:k<2*n):(gA p (n+1)).getD k dA=(gA p n).getD k dA:=by
 rw [gA,Gm,oa,List.getElem?_append_left (by rw[CN];exact h),oa]
theorem JB:∀ {n i:Nat},i<n->(gA p n).getD (2*i) dA=p i
 | 0,i,h=>absurd h (by omega)
 | n+1,i,h=>by
  by_cases e:i=n
  .subst e
   rw [gA,Gm,oa,ct (by rw[CN];omega),CN,Nat.sub_self];rfl
  .rw [KC (by omega),JB (by omega)]
theorem MU:∀ {n i:Nat},i<n->(gA p n).getD (2*i+1) dA=((p i).2.1,(p i).1,0,-(p i).2.2.2)
 | 0,i,h=>absurd h (by omega)
 | n+1,i,h=>by
  by_cases e:i=n
  .subst e
   rw [gA,Gm,oa,ct (by rw[CN];omega),CN,show 2*i+1-2*i=1 by omega];rfl
  .rw [KC (by omega),MU (by omega)]
def S8 (p:Nat->Arc) (N n:Nat):Prop:=∀i,i<n->(p i).1<N/\(p i).2.1<N/\(p i).1≠(p i).2.1/\0<=(p i).2.2.1/\0<=(p i).2.2.2/\(p i).2.2.2<=1000000
theorem FT:∀ {n},(gO p N n).length=N
 | 0=>by rw[gO,ft]
 | n+1=>by rw[gO,ET,ra,ra,FT]
theorem ZG {out:List (List Nat)} {u v m w:Nat} (hu:u<out.length) (hv:v<out.length) (huv:u≠v):(ET out u v m).getD w []=if w=v then out.getD v [] ++ [m+1]else if w=u then out.getD u [] ++ [m]else out.getD w []:=by
 unfold ET
 by_cases c1:w=v
 .subst c1
  rw [if_pos rfl,oa,gb (by rw[ra];exact hv)];rfl
 .rw [if_neg c1]
  by_cases c2:w=u
  .subst c2
   rw [if_pos rfl,oa,gc (λe=>c1 e.symm),gb hu];rfl
  .rw [if_neg c2,oa,gc (λe=>c1 e.symm),gc (λe=>c2 e.symm),oa]
theorem Yy:∀ {n},S8 p N n->∀ {u:Nat},u<N->∀ {k},k∈(gO p N n).getD u []↔k<2*n/\aF (gA p n) k=u
 | 0,_,u,hu,k=>by simp[gO,hu]
 | n + 1,h,u,hu,k=>by
  have ih:=Yy (n:=n) (λi hi=>h i (by omega)) hu (k:=k)
  obtain ⟨h1,h2,h3,_⟩:=h n (by omega)
  rw [gO,ZG (by rw[FT];exact h1) (by rw[FT];exact h2) h3]
  have e0:k<2*n->aF (gA p (n+1)) k=aF (gA p n) k:=λhk=>by unfold aF;rw[KC hk]
  have e1:aF (gA p (n+1)) (2*n)=(p n).1:=by unfold aF;rw[JB (by omega)]
  have e2:aF (gA p (n+1)) (2*n+1)=(p n).2.1:=by unfold aF;rw[MU (by omega)]
  have key:k<2*(n+1)/\aF (gA p (n+1)) k=u↔(k<2*n/\aF (gA p n) k=u)\/(k=2*n/\(p n).1=u)\/(k=2*n+1/\(p n).2.1=u):=by
   constructor
   .rintro ⟨a1,a2⟩
    by_cases c:k<2*n
    .rw [e0 c]at a2;exact .inl ⟨c,a2⟩
    .by_cases c2:k=2*n
     .subst c2;rw[e1]at a2;exact .inr (.inl ⟨rfl,a2⟩)
     .have : k=2*n+1:=by omega
      subst this;rw[e2]at a2;exact .inr (.inr ⟨rfl,a2⟩)
   .rintro (⟨a1,a2⟩ | ⟨a1,a2⟩ | ⟨a1,a2⟩)
    .exact ⟨by omega,by rw[e0 a1];exact a2⟩
    .subst a1;exact⟨by omega,by rw[e1];exact a2⟩
    .subst a1;exact⟨by omega,by rw[e2];exact a2⟩
  rw [key,CN]
  by_cases c1:u=(p n).2.1
  .rw [if_pos c1,kq,ku,<-c1,ih]
   constructor
   .rintro (a | a)
    .exact .inl a
    .exact .inr (.inr ⟨a,rfl⟩)
   .rintro (a | a | a)
    .exact .inl a
    .exact absurd (a.2.trans c1) h3
    .exact .inr a.1
  .rw [if_neg c1]
   by_cases c2:u=(p n).1
   .rw [if_pos c2,kq,ku,<-c2,ih]
    constructor
    .rintro (a | a)
     .exact .inl a
     .exact .inr (.inl ⟨a,rfl⟩)
    .rintro (a | a | a)
     .exact .inl a
     .exact .inr a.1
     .exact absurd a.2.symm c1
   .rw [if_neg c2,ih]
    constructor
    .exact .inl
    .rintro (a | a | a)
     .exact a
     .exact absurd a.2.symm c2
     .exact absurd a.2.symm c1
theorem Yz:∀ {n},S8 p N n->∀u,((gO p N n).getD u []).length<=n
 | 0,_,u=>by
  rw [gO,oa,fq]
  split <;> simp
 | n+1,h,u=>by
  have ih:=Yz (n:=n) λi hi=>h i (by omega)
  obtain ⟨h1,h2,h3,_⟩:=h n (by omega)
  rw [gO,ZG (by rw[FT];exact h1) (by rw[FT];exact h2) h3]
  have i1:=ih (p n).1
  have i2:=ih (p n).2.1
  have i3:=ih u
  split
  .rw [cu,se];omega
  .split
   .rw [cu,se];omega
   .omega
theorem ZH {out:List (List Nat)} {done:List Bool} {b:Nat} (h:∀u,(out.getD u []).length<=b):∀n,SR out done n<=n*b
 | 0=>by simp[SR]
 | n+1=>by
  have ih:=ZH (done:=done) h n
  have := h n
  rw [SR,Nat.succ_mul]
  split <;> omega
theorem Ai5 (h:S8 p N n) {s:Nat}:E4 (gO p N n) (ini N s)<=N*n+1:=by
 have := ZH (done:=(ini N s).done) (Yz h) N
 unfold E4
 rw [FT]
 have e:(ini N s).q.length=1:=rfl
 omega
section
variable {i:Nat}
theorem Acr (h:i<n):aF (gA p n) (2*i)=(p i).1:=by unfold aF;rw[JB h]
theorem Acs (h:i<n):aT (gA p n) (2*i)=(p i).2.1:=by unfold aT;rw[JB h]
theorem Acu (h:i<n):aL (gA p n) (2*i)=(p i).2.2.1:=by unfold aL;rw[JB h]
theorem Acv (h:i<n):aP (gA p n) (2*i)=(p i).2.2.2:=by unfold aP;rw[JB h]
theorem Agl (h:i<n):aF (gA p n) (2*i+1)=(p i).2.1:=by unfold aF;rw[MU h]
theorem Agm (h:i<n):aT (gA p n) (2*i+1)=(p i).1:=by unfold aT;rw[MU h]
theorem NH (h:i<n):aL (gA p n) (2*i+1)=0:=by unfold aL;rw[MU h]
theorem Agn (h:i<n):aP (gA p n) (2*i+1) = -(p i).2.2.2:=by unfold aP;rw[MU h]
end
theorem D3 {k:Nat} (h:k<2*n):∃i,i<n/\(k=2*i\/k=2*i+1):=⟨k / 2,by omega,by omega⟩
theorem Am4 (h:S8 p N n):WPr (gA p n) n:=by
 refine ⟨CN,λi hi=>?_,λi hi=>?_,λi hi=>?_,λj hj=>?_⟩
 .rw [Agl hi,Acs hi]
 .rw [Agm hi,Acr hi]
 .rw [Agn hi,Acv hi]
 .obtain ⟨i,hi,rfl | rfl⟩:=D3 hj
  .rw [Acu hi];exact (h i hi).2.2.2.1
  .rw [NH hi];exact Int.le_refl _
theorem Ago (h:S8 p N n) {s t:Nat} (hs:s<N) (ht:t<N) (hst:s≠t):SI (gA p n) (gO p N n) (ba N 0) N n s t 0:=by
 have ar:∀k,k<(gA p n).length->aF (gA p n) k<N/\aT (gA p n) k<N:=λk hk=>by
  rw [CN]at hk
  obtain ⟨i,hi,rfl | rfl⟩:=D3 hk
  .rw [Acr hi,Acs hi];exact⟨(h i hi).1,(h i hi).2.1⟩
  .rw [Agl hi,Agm hi];exact⟨(h i hi).2.1,(h i hi).1⟩
 have l0:∀v,(ba N (0:Int)).getD v 0=0:=λv=>by
  rw [oa,fq]
  split <;> rfl
 refine ⟨Am4 h,ar,λu hu k hk=>?_,λk hk=>?_,FT,by simp,hs,ht,hst,λk hk=>?_,l0 s,λv _=>by rw[l0];omega,λv hv=>?_,λ_=>0,λk hk hl=>?_,λv _=>(l0 v).symm⟩
 .rw [CN];exact (Yy h hu).1 hk
 .have :=(ar k hk).1
  rw [CN]at hk
  exact (Yy h this).2 ⟨hk,rfl⟩
 .rw [CN]at hk
  obtain ⟨i,hi,rfl | rfl⟩:=D3 hk
  .rw [Acv hi];have:=h i hi;omega
  .rw [Agn hi];have:=h i hi;omega
 .unfold FN.net
  rw [Bu]
  .split <;> split <;> rfl
  .intro i hi
   have hi':i<n:=by
    unfold fnA at hi;dsimp only at hi;rw[CN]at hi;omega
   have : flA (gA p n) i=0:=NH hi'
   rw [this]
   split <;> split <;> rfl
 .rw [CN]at hk
  obtain ⟨i,hi,rfl | rfl⟩:=D3 hk
  .rw [Acv hi];have:=h i hi;dsimp only;omega
  .rw [NH hi]at hl;omega
end
def fnP (p:Nat->Arc) (N n s t:Nat):FN:=⟨N,n,s,t,λi=>(p i).1,λi=>(p i).2.1,λi=>(p i).2.2.1,λi=>(p i).2.2.2⟩
section
variable {p:Nat->Arc} {N n s t:Nat}
theorem Ai6 (h:S8 p N n) (hs:s<N) (ht:t<N):(fnP p N n s t).WF:=⟨hs,ht,λi hi=>⟨(h i hi).1,(h i hi).2.1⟩⟩
theorem ZI {f:Nat->Int} {v:Nat}:(fnA (gA p n) N s t).net f v=(fnP p N n s t).net f v:=by
 unfold FN.net
 have e:(fnA (gA p n) N s t).m=n:=by unfold fnA;dsimp only;rw[CN];omega
 rw [e]
 refine Am λi hi=>?_
 show (if aF (gA p n) (2*i)=v then f i else 0)-(if aT (gA p n) (2*i)=v then f i else 0)=_
 rw [Acr hi,Acs hi];rfl
theorem fnA_flow {f:Nat->Int} {b:Int}:(fnA (gA p n) N s t).Flow f b↔(fnP p N n s t).Flow f b:=by
 have e:(fnA (gA p n) N s t).m=n:=by unfold fnA;dsimp only;rw[CN];omega
 have hc:∀i,i<n->(fnA (gA p n) N s t).cap i=(fnP p N n s t).cap i:=λi hi=>by
  show aL (gA p n) (2*i)+aL (gA p n) (2*i+1)=_
  rw [Acu hi,NH hi,Int.add_zero];rfl
 constructor
 .rintro ⟨h1,h2,h3⟩
  rw [e]at h1 h2
  exact ⟨h1,λi hi=>by rw[<-hc i hi];exact h2 i hi,λv hv=>by rw[<-ZI];exact h3 v hv⟩
 .rintro ⟨h1,h2,h3⟩
  exact ⟨by rw[e];exact h1,λi hi=>by rw[e]at hi;rw[hc i hi];exact h2 i hi,λv hv=>by rw[ZI];exact h3 v hv⟩
theorem fnA_pot {f φ:Nat->Int}:(fnA (gA p n) N s t).Pot f φ↔(fnP p N n s t).Pot f φ:=by
 have e:(fnA (gA p n) N s t).m=n:=by unfold fnA;dsimp only;rw[CN];omega
 have key:∀i,i<n->(fnA (gA p n) N s t).cap i=(fnP p N n s t).cap i/\(fnA (gA p n) N s t).pr i=(fnP p N n s t).pr i/\(fnA (gA p n) N s t).fr i=(fnP p N n s t).fr i/\(fnA (gA p n) N s t).to i=(fnP p N n s t).to i:=λi hi=>by
  refine ⟨?_,Acv hi,Acr hi,Acs hi⟩
  show aL (gA p n) (2*i)+aL (gA p n) (2*i+1)=_
  rw [Acu hi,NH hi,Int.add_zero];rfl
 unfold FN.Pot
 rw [e]
 show _↔∀i,i<n->_
 constructor
 .intro h i hi
  obtain ⟨k1,k2,k3,k4⟩:=key i hi
  have := h i hi
  rwa [k1,k2,k3,k4]at this
 .intro h i hi
  obtain ⟨k1,k2,k3,k4⟩:=key i hi
  rw [k1,k2,k3,k4]
  exact h i hi
theorem tF (h:S8 p N n) (hs:s<N) (ht:t<N) (hst:s≠t) {bytes:Int} (hb:0<=bytes) :
  (fnP p N n s t).Flow (flA (D0 (gA p n) (gO p N n) (ba N 0) N s t bytes).1) (D0 (gA p n) (gO p N n) (ba N 0) N s t bytes).2 /\
  (∃ φ,(fnP p N n s t).Pot (flA (D0 (gA p n) (gO p N n) (ba N 0) N s t bytes).1) φ) /\
  0 <= (D0 (gA p n) (gO p N n) (ba N 0) N s t bytes).2/\(D0 (gA p n) (gO p N n) (ba N 0) N s t bytes).2<=bytes /\
  ((D0 (gA p n) (gO p N n) (ba N 0) N s t bytes).2<bytes->∀f b,(fnP p N n s t).Flow f b->b<=(D0 (gA p n) (gO p N n) (ba N 0) N s t bytes).2) /\
  (D0 (gA p n) (gO p N n) (ba N 0) N s t bytes).1.length=2*n:=by
 have S:=Ago h hs ht hst
 have R:=Zy (bytes:=bytes) S
 obtain ⟨lv',S',h1,h2,h3,h4⟩:=Abz R S hb
 obtain ⟨f1,f2,φ,f3⟩:=Zw S'
 rw [h4]at f2 f3
 exact ⟨fnA_flow.1 f2,⟨φ,fnA_pot.1 f3⟩,h2,h1,λhlt f b hf=>Aim S' (h3 hlt) (f:=f) (by rw[h4];exact fnA_flow.2 hf),S'.wp.len⟩
end
end Sim
