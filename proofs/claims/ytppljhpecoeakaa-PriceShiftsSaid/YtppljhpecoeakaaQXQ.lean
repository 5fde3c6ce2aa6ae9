/- What functions of this seat compute, by values: contracts (lemmas of the statement's proof, under the conditions that each names). -/
import Derived.Test.YtppljhpecoeakaaQXL
import Derived.Test.YtppljhpecoeakaaSimAA
import Derived.Test.YtppljhpecoeakaaQXP
set_option maxRecDepth 10000
set_option maxHeartbeats 4000000
set_option linter.unusedVariables false
set_option linter.unusedSimpArgs false
namespace Sim
open Go Go.Proofs
attribute [local congr] Ap Aq Al AC As Ar Av
structure BkAt (A:List Arc) (out:List (List Nat)) (ob:Nat→Option IObj):Prop where
 o1 : ob 2=some (.arr 0 1 [.ref 9 (A.length / 2) 0 A.length])
 o2 : ob 3=some (.arr 0 1 (ED 5 out))
 o3 : ob 4=some (.arr 0 1 [.ref 3 0 0 out.length])
 o6 : ob 9=some (.arr (A.length / 2) 4 (A.map Dc))
 o7 : ∀u,u<out.length→ob (10+u)=some (.arr (out.getD u []).length 1 (Ba (out.getD u [])))
def Ji (A:List Arc) (u v:Nat) (x:Int):List Arc:=A ++ [(u,v,x,((A.length+1:Nat):Int)),(v,u,0,((A.length:Nat):Int))]
structure GB where
 A : List Arc
 out : List (List Nat)
 u : Nat
 v : Nat
 x : Int
def Jj (x:GB):List PV := [I (x.u:Nat),I (x.v:Nat),I x.x,.ptr 4 0 0 0,.ptr 2 0 0 0]
def Jk (x:GB) (st:Store):Prop:=BkAt x.A x.out st.obj∧x.u<x.out.length∧x.v<x.out.length∧¬x.u=x.v∧10+x.out.length≤st.next∧x.A.length≤1000000∧x.A.length % 2=0∧(x.out.getD x.u []).length≤1000000∧(x.out.getD x.v []).length≤1000000
def bO (ob:Nat→Option IObj) (u v n:Nat) (A:List Arc) (out:List (List Nat)):Nat→Option IObj :=
 Aa (Aa (Aa (Aa (Aa ob (10+u) (some (.arr (out.getD u []).length 1 (Ba (out.getD u []))))) (10+v) (some (.arr (out.getD v []).length 1 (Ba (out.getD v []))))) 3 (some (.arr 0 1 (ED 5 out)))) 9 (some (.arr n 4 (A.map Dc)))) 2 (some (.arr 0 1 [.ref 9 n 0 A.length]))
def K3 (x:GB) (st:Store):PV×Store:=(.tuple [],⟨bO st.obj x.u x.v (x.A.length / 2+1) (Ji x.A x.u x.v x.x) (CN x.out x.u x.v x.A.length),st.next⟩)
noncomputable def e_badd:Nat×Ent:=(51,.x (Be Jj Jk K3))
theorem Ns {out:List (List Nat)} {u v n:Nat}:(CN out u v n).length=out.length:=by unfold CN;rw[List.length_set,List.length_set]
theorem Nt {A:List Arc} {u v:Nat} {x:Int}:(Ji A u v x).length=A.length+2:=by unfold Ji;rw[List.length_append];rfl
theorem Abu {ob:Nat→Option IObj} {A:List Arc} {out:List (List Nat)} {u v iu iv i:Nat} {x:Int} (hu:u<out.length) (hv:v<out.length) (huv:¬u=v) (hiu:iu=10+u) (hiv:iv=10+v) :
  (Aa (Aa (Aa (Aa (Aa (Aa ob iu (some (.arr ((out.getD u []).length+1) 1 (Ba (out.getD u []) ++ [I (A.length:Nat)])))) iv (some (.arr ((out.getD v []).length+1) 1 (Ba (out.getD v []) ++ [I (A.length+1:Nat)])))) 3 (some (.arr 0 1 (ED 5 (out.set u (out.getD u [] ++ [A.length])))))) 3 (some (.arr 0 1 (ED 5 ((out.set u (out.getD u [] ++ [A.length])).set v (out.getD v [] ++ [A.length+1])))))) 9 (some (.arr (A.length / 2+1) 4 (A.map Dc ++ [.agg [I (u:Nat),I (v:Nat),I x,I (A.length+1:Nat)],.agg [I (v:Nat),I (u:Nat),I 0,I (A.length:Nat)]])))) 2 (some (.arr 0 1 [.ref 9 (A.length / 2+1) 0 (A.length+2)]))) i =
   bO ob u v (A.length / 2+1) (Ji A u v x) (CN out u v A.length) i:=by
 have z1:(CN out u v A.length).getD u []=out.getD u [] ++ [A.length]:=by
  unfold CN
  rw [List.getD_eq_getElem?_getD,List.getElem?_set_ne (fun e=>huv e.symm),List.getElem?_set_self hu];rfl
 have z2:(CN out u v A.length).getD v []=out.getD v [] ++ [A.length+1]:=by
  unfold CN
  rw [List.getD_eq_getElem?_getD,List.getElem?_set_self (by rw[List.length_set];exact hv)];rfl
 have z5:(Ji A u v x).map Dc=A.map Dc ++ [.agg [I (u:Nat),I (v:Nat),I x,I (A.length+1:Nat)],.agg [I (v:Nat),I (u:Nat),I 0,I (A.length:Nat)]]:=by unfold Ji;rw[List.map_append];rfl
 have z0:((out.set u (out.getD u [] ++ [A.length])).set v (out.getD v [] ++ [A.length+1]))=CN out u v A.length:=rfl
 subst hiu hiv
 simp only[bO,Aa,z0,z1,z2,Nt,z5,J9,List.length_append,List.length_singleton]
 by_cases e1:i=2
 ·simp only[if_pos e1]
 ·simp only[if_neg e1]
  by_cases e2:i=9
  ·simp only[if_pos e2]
  ·simp only[if_neg e2]
   by_cases e3:i=3
   ·simp only[if_pos e3]
   ·simp only[if_neg e3]
theorem Afz:AM Try.prog e_badd.1 e_badd.2:=Cx fun x st hx=>by
 obtain ⟨A,out,u,v,x⟩:=x
 obtain ⟨ob,M⟩:=st
 unfold Jk at hx
 dsimp only at hx
 obtain ⟨h1,hu,hv,huv,h4,h8,h9,h10,h11⟩:=hx
 simp only[Jj,K3]
 have G1:=h1.o1
 have G2:=h1.o2
 have G3:=h1.o3
 have G6:=h1.o6
 have Gu:=h1.o7 u hu
 have Gv:=h1.o7 v hv
 obtain ⟨iu,hiu⟩:∃i,i=10+u:=⟨_,rfl⟩
 obtain ⟨iv,hiv⟩:∃i,i=10+v:=⟨_,rfl⟩
 have nu:=Eu (B:=5) hu
 have hol:=DV (B:=5) (out:=out)
 have su:=Ka (B:=5) (n:=A.length) hu
 have sv:=Ka (B:=5) (n:=A.length+1) (out:=out.set u (out.getD u [] ++ [A.length])) (u:=v) (by rw[List.length_set];exact hv)
 have nv:=Eu (B:=5) (out:=out) (u:=v) hv
 have ev:(out.set u (out.getD u [] ++ [A.length])).getD v []=out.getD v []:=by
  rw [List.getD_eq_getElem?_getD,List.getElem?_set_ne huv,List.getD_eq_getElem?_getD]
 have nv2:=Eu (B:=5) (out:=out.set u (out.getD u [] ++ [A.length])) (u:=v) (by rw[List.length_set];exact hv)
 rw [ev]at sv nv2
 have hol2:(ED 5 (out.set u (out.getD u [] ++ [A.length]))).length=out.length:=by rw[DV,List.length_set]
 rw [show 5+5+u=iu by omega]at nu su
 rw [show 5+5+v=iv by omega]at nv sv nv2
 rw [←hiu]at Gu
 rw [←hiv]at Gv
 have d1:¬2=iu:=by omega
 have d2:¬3=iu:=by omega
 have d3:¬4=iu:=by omega
 have d4:¬9=iu:=by omega
 have d5:¬2=iv:=by omega
 have d6:¬3=iv:=by omega
 have d7:¬4=iv:=by omega
 have d8:¬9=iv:=by omega
 have d9:¬iu=2:=by omega
 have d10:¬iu=3:=by omega
 have d11:¬iu=4:=by omega
 have d12:¬iu=9:=by omega
 have d13:¬iv=2:=by omega
 have d14:¬iv=3:=by omega
 have d15:¬iv=4:=by omega
 have d16:¬iv=9:=by omega
 have d17:¬iu=iv:=by omega
 have d18:¬iv=iu:=by omega
 have wn:IntKind.i64.wrap ((A.length:Int)+1)=((A.length+1:Nat):Int):=BF (by omega)
 have k1:=Ih (B:=5) hu
 have k2:=Ih (B:=5) (out:=out.set u (out.getD u [] ++ [A.length])) (u:=v) (by rw[List.length_set];exact hv)
 have k3:(out.getD u []).length≤2147483647:=by omega
 have k4:(out.getD v []).length≤2147483647:=by omega
 have k5:List.take (out.getD u []).length (Ba (out.getD u []))=Ba (out.getD u []):=List.take_of_length_le (by rw[CB];exact Nat.le_refl _)
 have k6:List.take (out.getD v []).length (Ba (out.getD v []))=Ba (out.getD v []):=List.take_of_length_le (by rw[CB];exact Nat.le_refl _)
 have k7:A.length≤2147483646:=by omega
 have k9:¬A.length+2≤A.length:=by omega
 have k8:List.take A.length (A.map Dc)=A.map Dc:=List.take_of_length_le (by rw[List.length_map];exact Nat.le_refl _)
 refine wF [0] AP (l := []) (Ao) [] [700008,700010,700012,700014,700015,700016,700020,700022,700023,700024,700017,700025,700019,700028] 0 Try.func51 rfl (by decide +kernel) (N:=46) rfl (by simp) rfl (by kernel_rfl) ?_
 simp +contextual (maxSteps:=4000000) only[↓bdD,bdP,Try.f51,↓AQ]
 refine jW 2 22 (by rfl) (by kernel_rfl) ?_ ?_
 ·simp +contextual (maxSteps:=4000000) only[↓bdD,bdP,Nat.reduceLT,Nat.reduceBEq,Ai,Nat.reduceAdd,Nat.reduceMul,Nat.reduceLeDiff,reduceCtorEq,Store.set,↓reduceIte,ty3,Bf,AZ,JM,Mr,↓Am,Bool.false_and,G1,G2,G3,G6,Gu,Gv,nu,nv,nv2,su,sv,hol,hol2,hu,hv,wn,d1,d2,d3,d4,d5,d6,d8,d18,k1,k2,k3,k4,k5,k6,k7,k8,k9,I6,CB,Nat.mul_one]
  skip
  refine ⟨_,rfl,Left.same rfl (fun i o hi=>?_) (Nat.le_refl _)⟩
  rw [←hi]
  exact Abu (x:=x) hu hv huv hiu hiv
 ·simp only[atO,Kt,List.length_cons,List.length_nil,Nat.reduceAdd,show List.range 25 = [0,1,2,3,4,5,6,7,8,9,10,11,12,13,14,15,16,17,18,19,20,21,22,23,24] from rfl,List.flatMap_cons,List.flatMap_nil,Nat.reduceEqDiff,if_false,if_true,List.cons_append,List.nil_append,List.append_nil,List.filterMap_cons,List.filterMap_nil,List.getElem?_toArray,List.getElem?_cons_succ,List.getElem?_cons_zero,Nat.reduceLT,↓reduceIte]
  simp +contextual (maxSteps:=4000000) only[↓bdD,bdP,Nat.reduceLT,Nat.reduceBEq,Ai,Nat.reduceAdd,Nat.reduceMul,Nat.reduceLeDiff,reduceCtorEq,Store.set,↓reduceIte,ty3,Bf,AZ,JM,Mr,↓Am,Bool.false_and,G1,G2,G3,G6,Gu,Gv,nu,nv,nv2,su,sv,hol,hol2,hu,hv,wn,d1,d2,d3,d4,d5,d6,d7,d8,d18,k1,k2,k3,k4,k5,k6,k7,k8,k9,I6,CB,Nat.mul_one]
  refine ⟨_,rfl,Left.same rfl (fun i o hi=>?_) (Nat.le_refl _)⟩
  rw [←hi]
  exact Abu (x:=x) hu hv huv hiu hiv
theorem BkAt.same {A A':List Arc} {out out':List (List Nat)} {ob:Nat→Option IObj} (g:BkAt A out ob) (g':BkAt A' out' ob):A=A'∧out=out':=by
 have e4:=g.o6.symm.trans g'.o6
 simp only[Option.some.injEq,IObj.arr.injEq,MA,true_and]at e4
 have e3:=g.o3.symm.trans g'.o3
 simp only[Option.some.injEq,IObj.arr.injEq,List.cons.injEq,PV.ref.injEq,true_and,and_true]at e3
 refine ⟨e4.2,List.ext_getElem e3 fun u h1 h2=>?_⟩
 have q:=(g.o7 u h1).symm.trans (g'.o7 u h2)
 simp only[Option.some.injEq,IObj.arr.injEq,MV,true_and]at q
 have q:=q.2
 rwa [List.getD_eq_getElem?_getD,List.getD_eq_getElem?_getD,List.getElem?_eq_getElem h1,List.getElem?_eq_getElem h2]at q
theorem Af0 (a b:GB) (st:Store) (h:Jj a=Jj b) (hx:Jk a st) (hy:Jk b st):K3 a st=K3 b st:=by
 obtain ⟨A,out,u,v,x⟩:=a
 obtain ⟨A',out',u',v',x'⟩:=b
 simp only[Jj,List.cons.injEq,and_true,PV.int.injEq,true_and]at h
 have e2:u=u':=by omega
 have e3:v=v':=by omega
 obtain ⟨_,_,e4⟩:=h
 subst e2;subst e3;subst e4
 obtain ⟨a1,a2⟩:=BkAt.same hx.1 hy.1
 dsimp only at a1 a2
 subst a1;subst a2
 rfl
theorem Af1 {u v:Nat} {x:Int} (A:List Arc) (out:List (List Nat)) {st:Store} (h:Jk ⟨A,out,u,v,x⟩ st):Be Jj Jk K3 [I (u:Nat),I (v:Nat),I x,.ptr 4 0 0 0,.ptr 2 0 0 0] st=some (.tuple [],⟨bO st.obj u v (A.length / 2+1) (Ji A u v x) (CN out u v A.length),st.next⟩) :=
 Bq Af0 (i:=⟨A,out,u,v,x⟩) h
noncomputable def Ew:(Int)×(List Lnk)×(List Snd)×(Dem)×(Int)×(Int)→List PV:=fun (hn,ls,us,d,x,t) => [I x,I t,.vptr [I hn,Az ls,AB us,I d.1,I d.2.1,I d.2.2.1,I d.2.2.2.1,I d.2.2.2.2] 0]
noncomputable def HR:(Int)×(List Lnk)×(List Snd)×(Dem)×(Int)×(Int)→PV:=fun (hn,ls,us,d,x,t)=>I (t*hn+x)
def HT:(Int)×(List Lnk)×(List Snd)×(Dem)×(Int)×(Int)→Prop:=fun (hn,ls,us,d,x,t)=>0≤hn∧hn≤12∧0≤t∧t≤1000∧0≤x∧x≤1000
noncomputable def e_bpoint:Nat×Ent:=(50,.v (Ah Ew HR HT))
theorem qJ:∀i j,Ew i=Ew j→i=j:=by
 rintro ⟨hn₁,ls₁,us₁,d₁,x₁,t₁⟩ ⟨hn₂,ls₂,us₂,d₂,x₂,t₂⟩ h
 simp only[Ew,List.cons.injEq,and_true,PV.lits.injEq,PV.int.injEq,PV.vptr.injEq,true_and,AR,AG]at h
 simp [Prod.ext_iff,h] <;> omega
theorem qK (hn:Int) (ls:List Lnk) (us:List Snd) (d:Dem) (x:Int) (t:Int):Ah Ew HR HT [I x,I t,.vptr [I hn,Az ls,AB us,I d.1,I d.2.1,I d.2.2.1,I d.2.2.2.1,I d.2.2.2.2] 0]=@ite (Option (PV)) (0≤hn∧hn≤12∧0≤t∧t≤1000∧0≤x∧x≤1000) (Classical.propDecidable _) (some (I (t*hn+x))) none:=BV qJ (hn,ls,us,d,x,t)
def T4:Prop:=∀(hn:Int) (ls:List Lnk) (us:List Snd) (d:Dem) (x:Int) (t:Int) (h:0≤hn∧hn≤12∧0≤t∧t≤1000∧0≤x∧x≤1000) ,VC Try.prog 50 [I x,I t,.vptr [I hn,Az ls,AB us,I d.1,I d.2.1,I d.2.2.1,I d.2.2.2.1,I d.2.2.2.2] 0] (I (t*hn+x))
def T5:Prop:=AM Try.prog e_bpoint.1 e_bpoint.2
theorem qL (c:T4):T5:=At fun⟨hn,ls,us,d,x,t⟩ h=>c hn ls us d x t h
theorem qM:T4:=by
 rintro hn ls us d x t ⟨h0,h1,h2,h3,h4,h5⟩
 refine A5 AP (l := []) (Ao) [] []  Try.func50 rfl (by decide +kernel) (N:=13) rfl (by simp) rfl (by kernel_rfl) fun hs=>?_
 simp only[AI,PV.small,List.length_map,and_true,true_and]at hs
 have hm:0≤t*hn∧t*hn≤12000:=by
  constructor
  ·exact Int.mul_nonneg h2 h0
  ·exact Int.le_trans (Int.mul_le_mul h3 h1 h0 (by decide)) (by decide)
 have w1:IntKind.i64.wrap (t*hn)=t*hn:=Ag (by omega) (by omega)
 have w2:IntKind.i64.wrap (t*hn+x)=t*hn+x:=Ag (by omega) (by omega)
 simp +contextual (maxSteps:=4000000) only[↓bdD,bdP,Nat.reduceLT,Nat.reduceBEq,Ai,Nat.reduceAdd,st0,↓reduceIte,Try.f50,ty3,Aw,Bk,w1,w2]
theorem qN:T5:=qL qM
end Sim
namespace Sim
def bA (p:Nat→Arc):Nat→List Arc
 | 0 => []
 | n+1=>Ji (bA p n) (p n).1 (p n).2.1 (p n).2.2.1
section
variable {p:Nat→Arc} {N n:Nat}
theorem GG:∀ {n},(bA p n).length=2*n
 | 0=>rfl
 | n+1=>by rw[bA,Nt,GG];omega
theorem Nu {k:Nat} (h:k<2*n):(bA p (n+1)).getD k dA=(bA p n).getD k dA:=by
 rw [bA,Ji,List.getD_eq_getElem?_getD,List.getElem?_append_left (by rw[GG];exact h),List.getD_eq_getElem?_getD]
theorem Kj:∀ {n i:Nat},i<n→(bA p n).getD (2*i) dA=((p i).1,(p i).2.1,(p i).2.2.1,((2*i+1:Nat):Int))
 | 0,i,h=>absurd h (by omega)
 | n+1,i,h=>by
  by_cases e:i=n
  ·subst e
   rw [bA,Ji,List.getD_eq_getElem?_getD,List.getElem?_append_right (by rw[GG];omega),GG,Nat.sub_self];rfl
  ·rw [Nu (by omega),Kj (by omega)]
theorem K4:∀ {n i:Nat},i<n→(bA p n).getD (2*i+1) dA=((p i).2.1,(p i).1,0,((2*i:Nat):Int))
 | 0,i,h=>absurd h (by omega)
 | n+1,i,h=>by
  by_cases e:i=n
  ·subst e
   rw [bA,Ji,List.getD_eq_getElem?_getD,List.getElem?_append_right (by rw[GG];omega),GG,show 2*i+1-2*i=1 by omega];rfl
  ·rw [Nu (by omega),K4 (by omega)]
theorem Ail {s e:Nat} (h:J3 p N n):RSE p n (bA p n) (stE s e 0):=by
 refine ⟨GG,fun i hi=>?_,fun k hk=>?_,fun k hk=>?_,fun i hi=>?_,fun v=>?_⟩
 ·unfold aF aT;rw[Kj hi,K4 hi];exact⟨rfl,rfl,rfl,rfl⟩
 ·obtain ⟨i,hi,e | e⟩:=B5 hk
  ·subst e;unfold aP rv;rw[Kj hi,if_pos (by omega)]
  ·subst e;unfold aP rv;rw[K4 hi,if_neg (by omega)];rfl
 ·obtain ⟨i,hi,e | e⟩:=B5 hk
  ·subst e;unfold aL;rw[Kj hi];exact (h i hi).2.2.2.1
  ·subst e;unfold aL;rw[K4 hi];exact Int.le_refl _
 ·unfold aL;rw[Kj hi,K4 hi];exact Int.add_zero _
 ·have : ∀i,i<n→flA (bA p n) i=0:=fun i hi=>by unfold flA aL;rw[K4 hi]
  rw [A3 fun i hi=>by rw[this i hi];simp]
  unfold stE
  simp
theorem Q5 {k:Nat} (h:k<2*n) {A:List Arc} {E:Nat→Int} (R:RSE p n A E):aF A k=aF (gA p n) k∧aT A k=aT (gA p n) k:=by
 obtain ⟨i,hi,e | e⟩:=B5 h
 ·subst e;rw[(R.fr i hi).1,(R.fr i hi).2.1,bG hi,bH hi];exact⟨rfl,rfl⟩
 ·subst e;rw[(R.fr i hi).2.2.1,(R.fr i hi).2.2.2,mP hi,mQ hi];exact⟨rfl,rfl⟩
theorem Af2 (h:J3 p N n) {A:List Arc} {E:Nat→Int} (R:RSE p n A E) {u:Nat} (hu:u<N) {k:Nat}:k∈(gO p N n).getD u []↔k<2*n∧aF A k=u:=by
 rw [QB h hu]
 constructor
 ·rintro ⟨a,b⟩;exact⟨a,by rw[(Q5 a R).1];exact b⟩
 ·rintro ⟨a,b⟩;exact⟨a,by rw[←(Q5 a R).1];exact b⟩
end
def qB (T:TN) (D:Nat) (i:Nat):Arc :=
 if i<D*T.L then (i / T.L*T.h+T.fr (i % T.L),(i / T.L+1)*T.h+T.to (i % T.L),T.lf (i % T.L) (i / T.L),0)else (i-D*T.L,i-D*T.L+T.h,1152921504606846976,0)
namespace TN
variable {T:TN} {D:Nat}
theorem qB_ok (ok:T.OK D):J3 (qB T D) ((D+1)*T.h) (D*T.L+D*T.h):=fun i hi=>by
 have h1:=ok.h1
 have b2:(D+1)*T.h=D*T.h+T.h:=Nat.succ_mul _ _
 unfold qB
 by_cases c:i<D*T.L
 ·rw [if_pos c]
  have hL:0<T.L:=by
   rcases Nat.eq_zero_or_pos T.L with e | e
   ·rw [e]at c;omega
   ·exact e
  have ht:i / T.L<D:=by rw[Nat.div_lt_iff_lt_mul hL];exact c
  have hk:=Nat.mod_lt i hL
  obtain ⟨e1,e2⟩:=ok.e _ hk
  have e3:=ok.lf _ _ hk ht
  have b1:(i / T.L+1)*T.h≤D*T.h:=Nat.mul_le_mul_right _ (by omega)
  have b3:(i / T.L+1)*T.h=i / T.L*T.h+T.h:=Nat.succ_mul _ _
  dsimp only
  exact ⟨by omega,by omega,by omega,e3,by omega,by omega⟩
 ·rw [if_neg c]
  dsimp only
  exact ⟨by omega,by omega,by omega,by omega,by omega,by omega⟩
end TN
open Classical in
noncomputable def frT (P:Nat→Prop) (r z:Int) (D:Nat):Nat→Int
 | 0=>z
 | j+1=>if P (D-j)then r+((D-j:Nat):Int)else frT P r z D j
theorem Q6 {P:Nat→Prop} {r z:Int} {D j:Nat} (h:P (D-j)):frT P r z D (j+1)=r+((D-j:Nat):Int):=by rw[frT,if_pos h]
theorem Q7 {P:Nat→Prop} {r z:Int} {D j:Nat} (h:¬P (D-j)):frT P r z D (j+1)=frT P r z D j:=by rw[frT,if_neg h]
theorem qO {P:Nat→Prop} {r z:Int} {D:Nat} (hz:r+(D:Int)<z) (hm:∀t,t<D→P t→P (t+1)):∀j,j≤D+1→∀t,t≤D→D+1-j≤t→(frT P r z D j≤r+(t:Int)↔P t)
 | 0,_,t,ht,hj=>absurd hj (by omega)
 | j + 1,hj,t,ht,h=>by
  have up:∀n,D-j+n≤D→P (D-j)→P (D-j+n):=fun n=>by
   induction n with
   | zero=>exact fun _ h=>h
   | succ n ih=>exact fun hn h=>hm (D-j+n) (by omega) (ih (by omega) h)
  by_cases c:P (D-j)
  ·rw [Q6 c]
   have := up (t-(D-j)) (by omega) c
   rw [show D-j+(t-(D-j))=t by omega]at this
   exact ⟨fun _=>this,fun _=>by omega⟩
  ·rw [Q7 c]
   by_cases e:t=D-j
   ·subst e
    refine ⟨fun g=>?_,fun g=>absurd g c⟩
    exfalso
    have hh:∀j',j'≤j→r+((D-j:Nat):Int)<frT P r z D j':=by
     intro j'
     induction j' with
     | zero=>intro _;rw[frT];omega
     | succ j' ih =>
      intro hj'
      by_cases c2:P (D-j')
      ·rw [Q6 c2];omega
      ·rw [Q7 c2];exact ih (by omega)
    have := hh j (Nat.le_refl _)
    omega
   ·exact qO hz hm j (by omega) t ht (by omega)
end Sim
