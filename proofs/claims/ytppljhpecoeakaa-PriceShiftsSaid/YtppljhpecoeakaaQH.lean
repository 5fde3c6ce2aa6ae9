/- What functions of this seat compute, by values: contracts (lemmas of the statement's proof, under the conditions that each names). -/
import Derived.Test.YtppljhpecoeakaaQC
set_option maxRecDepth 10000
set_option maxHeartbeats 2000000
set_option linter.unusedVariables false
set_option linter.unusedSimpArgs false
namespace Sim
open Go Go.Proofs
attribute [local congr] Ap Aq Al AC As Ar Av
theorem yJ (x y:QS) (st:Store) (h:EJ x=EJ y) (hx:Et x st) (hy:Et y st):H9 x st=H9 y st:=by rw[QS.same3 h hx hy]
theorem yK (x y:QS) (st:Store) (h:EJ x=EJ y) (hx:Et x st) (hy:Et y st):Gx x st=Gx y st:=by rw[QS.same3 h hx hy]
theorem Wq {aid g n:Nat} (l:List It) {st:Store} (h:QS.at ⟨aid,g,n,l,0,0⟩ st):Be KO QS.at KP [.ref aid g 0 n] st=some (I (n:Nat),st):=Bq Ad2 (i:=⟨aid,g,n,l,0,0⟩) h
theorem XD {aid g n u v:Nat} (l:List It) {st:Store} (h:Et ⟨aid,g,n,l,u,v⟩ st):Be EJ Et H9 [.ref aid g 0 n,I (u:Nat),I (v:Nat)] st=some (.bool (decide (kI l u<kI l v)),st) :=
 Bq yJ (i:=⟨aid,g,n,l,u,v⟩) h
theorem QI {aid g n u v:Nat} (l:List It) {ob:Nat→Option IObj} {M:Nat} (h:Et ⟨aid,g,n,l,u,v⟩ ⟨ob,M⟩):Be EJ Et Gx [.ref aid g 0 n,I (u:Nat),I (v:Nat)] ⟨ob,M⟩=some (.tuple [],⟨Aa ob aid (some (.arr g 2 ((swp l u v).map itV))),M⟩) :=
 Bq yK (i:=⟨aid,g,n,l,u,v⟩) h
theorem MT {l tl:List It} {k:Nat} (h:k<l.length):(l++tl).getD k dI=l.getD k dI:=by
 rw [List.getD_eq_getElem?_getD,List.getElem?_append_left h,List.getD_eq_getElem?_getD]
theorem LD {l tl:List It} {k:Nat} (h:k<l.length):kI (l++tl) k=kI l k:=by unfold kI;rw[MT h]
theorem QJ {l tl:List It} {u v:Nat} (hu:u<l.length) (hv:v<l.length):swp (l++tl) u v=swp l u v++tl:=by
 unfold swp
 rw [MT hu,MT hv,List.set_append,if_pos hu,List.set_append,if_pos (by rw[List.length_set];exact hv)]
abbrev hpO (ob:Nat→Option IObj) (qid qg aid g:Nat) (q tl:List It):Nat→Option IObj:=Aa (Aa ob aid (some (.arr g 2 ((q++tl).map itV)))) qid (some (.arr qg 1 [.ref aid g 0 q.length]))
theorem MU {ob:Nat→Option IObj} {qid qg aid g:Nat} {q tl:List It} (h1:ob qid=some (.arr qg 1 [.ref aid g 0 q.length])) (h2:ob aid=some (.arr g 2 ((q++tl).map itV))):hpO ob qid qg aid g q tl=ob:=by
 funext i
 simp only[hpO,Aa]
 by_cases c1:i=qid
 ·rw [if_pos c1,c1,h1]
 ·rw [if_neg c1]
  by_cases c2:i=aid
  ·rw [if_pos c2,c2,h2]
  ·rw [if_neg c2]
theorem QK {ob:Nat→Option IObj} {qid qg aid g:Nat} {q q' tl:List It} (hne:¬aid=qid) (hl:q'.length=q.length):Aa (hpO ob qid qg aid g q tl) aid (some (.arr g 2 ((q'++tl).map itV)))=hpO ob qid qg aid g q' tl:=by
 funext i
 simp only[hpO,Aa]
 by_cases c1:i=aid
 ·have c2:¬i=qid:=by rw[c1];exact hne
  rw [if_pos c1,if_neg c2,if_pos c1]
 ·rw [if_neg c1,if_neg c1,if_neg c1,hl]
theorem QL {ob:Nat→Option IObj} {M qid qg aid g n:Nat} {q tl:List It} {u v:Nat} (hne:¬aid=qid) (hn:n=q.length) (hb:q.length+tl.length≤1000000000):QS.at ⟨aid,g,n,q++tl,u,v⟩ ⟨hpO ob qid qg aid g q tl,M⟩:=by
 refine ⟨?_,?_,?_⟩
 ·simp only[hpO,Aa,if_neg hne,if_true]
 ·dsimp only
  rw [List.length_append];omega
 ·dsimp only
  rw [List.length_append];omega
def TA (h:HS) (st:Store):Prop:=h.at st∧h.j<h.q.length
def OR (h:HS):List PV := [h.pi,I (h.j:Nat)]
def OS (h:HS) (st:Store):PV×Store:=(.tuple [],hpS st.obj st.next h.qid h.qg h.aid h.g (upF (h.j+1) h.q h.j) h.tl)
noncomputable def e_hup:Nat×Ent:=(87,.x (Be OR TA OS))
theorem Ahu (x y:HS) (st:Store) (h:OR x=OR y) (hx:TA x st) (hy:TA y st):OS x st=OS y st:=by
 simp only[OR,HS.pi,List.cons.injEq,and_true,PV.iface.injEq,true_and,PV.int.injEq]at h
 obtain ⟨a1,a2,a3,a4,a5,a6⟩:=HS.same h.1 hx.1 hy.1
 have a7:x.j=y.j:=by omega
 simp only[OS,a1,a2,a3,a4,a5,a6,a7]
theorem Ai0 {j:Nat} (h:j≤1000000000):IntKind.i64.wrap (Int.tdiv ((j:Int)-1) 2)=(((j-1) / 2:Nat):Int):=by
 rcases Nat.eq_zero_or_pos j with rfl | hj
 ·decide
 ·rw [Int.tdiv_eq_ediv_of_nonneg (by omega),Ag (by omega) (by omega)]
  omega
theorem Ahv:AM Try.prog e_hup.1 e_hup.2:=Cx fun h st hx=>by
 obtain ⟨hx,hj⟩:=hx
 have hne:=HS.ne hx
 obtain ⟨qid,qg,aid,g,q,tl,x,j,k⟩:=h
 obtain ⟨ob,M⟩:=st
 unfold HS.at at hx
 dsimp only at hx hne hj
 obtain ⟨h1,h2,h3,h4⟩:=hx
 have hne2:¬qid=aid:=fun e=>hne e.symm
 rw [List.length_append]at h3
 simp only[OR,OS,HS.p,HS.pi,hpS]
 obtain ⟨R,hR⟩:∃R,upF (j+1) q j=R:=⟨_,rfl⟩
 rw [hR]
 refine Ch AP (l := [e_qless,e_qswap]) ((Ae XC (Ae QH Ao))) [] [] 0 Try.func87 rfl (by decide +kernel) (N:=23) rfl (by simp) rfl (by kernel_rfl) ?_
 simp +contextual (maxSteps:=4000000) only[↓bdD,bdP,e_qless,e_qswap,Try.f87]
 refine CS [1,4,5,6,7,8,9,10,11,12,13,14,15,16,17,18,19,20,21,22] (j+1) (fun m ρ st'=>∃l' j',ρ 1=I (j':Nat)∧j'<m∧j'<q.length∧l'.length=q.length∧upF m l' j'=R∧st'=⟨hpO ob qid qg aid g l' tl,M⟩) (.refl _) ?_ ?_
 ·refine ⟨q,j,rfl,by omega,hj,rfl,hR,?_⟩
  rw [MU h1 h2]
 rintro m ρ st' ⟨l',j',r1,r2,r3,r4,r5,rfl⟩
 have w1:IntKind.i64.wrap ((j':Int)-1)=(j':Int)-1:=Ag (by omega) (by omega)
 have w2:=Ai0 (j:=j') (by omega)
 have hL:=XD (u:=j') (v:=(j'-1) / 2) (l'++tl) (st:=⟨hpO ob qid qg aid g l' tl,M⟩) (n:=l'.length) (g:=g) (aid:=aid) ⟨QL hne rfl (by omega),by dsimp only;omega,by dsimp only;omega⟩
 have hS:=QI (u:=(j'-1) / 2) (v:=j') (l'++tl) (ob:=hpO ob qid qg aid g l' tl) (M:=M) (n:=l'.length) (g:=g) (aid:=aid) ⟨QL hne rfl (by omega),by dsimp only;omega,by dsimp only;omega⟩
 simp +contextual (maxSteps:=4000000) only[↓bdD,bdP,Nat.reduceLT,Nat.reduceBEq,Ai,Nat.reduceEqDiff,Nat.reduceAdd,reduceCtorEq,Int.reduceEq,↓reduceIte,ty3,r1,w1,w2,hL,hS,DD,Dg]
 obtain ⟨m1,rfl⟩:∃m1,m=m1+1:=⟨m-1,by omega⟩
 have k1:kI (l'++tl) j'=kI l' j':=LD (by omega)
 have k2:kI (l'++tl) ((j'-1) / 2)=kI l' ((j'-1) / 2):=LD (by omega)
 rw [k1,k2]
 simp only[upF]at r5
 refine ⟨fun a=>⟨fun b=>?_,fun b=>?_⟩,fun a=>?_⟩
 ·rw [if_pos (.inr b)]at r5
  subst r5
  exact ⟨_,rfl,Left.refl⟩
 ·rw [if_neg (by simp[a,b])]at r5
  rw [QJ (by omega) (by omega)]
  refine ⟨m1,by omega,_,by omega,by omega,?_,r5,?_⟩
  ·rw [BC,r4]
  ·rw [QK hne (by rw[BC])]
 ·rw [if_pos (.inl a)]at r5
  subst r5
  exact ⟨_,rfl,Left.refl⟩
end Sim
namespace Sim
open Go Go.Proofs
attribute [local congr] Ap Aq Al AC As Ar Av
def Lq:Nat→List It→Nat→Nat→Nat
 | 0,_,i,_=>i
 | f+1,l,i,n=>if n≤2*i+1∨¬kI l (chC l i n)<kI l i then i else Lq f (swp l i (chC l i n)) (chC l i n) n
def J7 (h:HS) (st:Store):Prop:=h.at st∧h.j<h.q.length∧h.k≤h.q.length
def Ib (h:HS):List PV := [h.pi,I (h.j:Nat),I (h.k:Nat)]
def Ic (h:HS) (st:Store):PV×Store:=(.bool (decide (h.j<Lq h.q.length h.q h.j h.k)),hpS st.obj st.next h.qid h.qg h.aid h.g (DF h.q.length h.q h.j h.k) h.tl)
noncomputable def e_hdown:Nat×Ent:=(85,.x (Be Ib J7 Ic))
theorem yL (x y:HS) (st:Store) (h:Ib x=Ib y) (hx:J7 x st) (hy:J7 y st):Ic x st=Ic y st:=by
 simp only[Ib,HS.pi,List.cons.injEq,and_true,PV.iface.injEq,true_and,PV.int.injEq]at h
 obtain ⟨a1,a2,a3,a4,a5,a6⟩:=HS.same h.1 hx.1 hy.1
 have a7:x.j=y.j:=by omega
 have a8:x.k=y.k:=by omega
 simp only[Ic,a1,a2,a3,a4,a5,a6,a7,a8]
theorem yM:AM Try.prog e_hdown.1 e_hdown.2:=Cx fun h st hx=>by
 obtain ⟨hx,hj,hk⟩:=hx
 have hne:=HS.ne hx
 obtain ⟨qid,qg,aid,g,q,tl,x,j,n⟩:=h
 obtain ⟨ob,M⟩:=st
 unfold HS.at at hx
 dsimp only at hx hne hj hk
 obtain ⟨h1,h2,h3,h4⟩:=hx
 have hne2:¬qid=aid:=fun e=>hne e.symm
 rw [List.length_append]at h3
 simp only[Ib,Ic,HS.p,HS.pi,hpS]
 obtain ⟨R,hR⟩:∃R,DF q.length q j n=R:=⟨_,rfl⟩
 obtain ⟨S,hS⟩:∃S,Lq q.length q j n=S:=⟨_,rfl⟩
 rw [hR,hS]
 refine Ch AP (l := [e_qless,e_qswap]) ((Ae XC (Ae QH Ao))) [] [] 0 Try.func85 rfl (by decide +kernel) (N:=48) rfl (by simp) rfl (by kernel_rfl) ?_
 simp +contextual (maxSteps:=4000000) only[↓bdD,bdP,Nat.reduceLT,Nat.reduceBEq,e_qless,e_qswap,Try.f85]
 refine CS [7,8,9,10,12,13,14,15,16,17,18,19,20,21,22,23,24,25,26,27,28,29,30,31,32,33,34,35,36,37,38,39,40,41,42,43,44] q.length (fun m ρ st'=>∃l' i',ρ 7=I (i':Nat)∧q.length≤i'+m∧i'<q.length∧l'.length=q.length∧DF m l' i' n=R∧Lq m l' i' n=S∧st'=⟨hpO ob qid qg aid g l' tl,M⟩) (.refl _) ?_ ?_
 ·simp +contextual (maxSteps:=4000000) only[↓bdD,bdP]
  refine ⟨q,by omega,hj,rfl,hR,hS,?_⟩
  rw [MU h1 h2]
 rintro m ρ st' ⟨l',i',r1,r2,r3,r4,r5,r6,rfl⟩
 obtain ⟨a,ha⟩:∃a,a=2*i'+1:=⟨_,rfl⟩
 obtain ⟨b,hb⟩:∃b,b=2*i'+2:=⟨_,rfl⟩
 have w1:IntKind.i64.wrap (2*(i':Int))=2*(i':Int):=Ag (by omega) (by omega)
 have w2:IntKind.i64.wrap (2*(i':Int)+1)=(a:Int):=by rw[Ag (by omega) (by omega)];omega
 have w3:IntKind.i64.wrap ((a:Int)+1)=(b:Int):=by rw[Ag (by omega) (by omega)];omega
 have hneg:¬(a:Int)<0:=by omega
 by_cases c0:n≤a
 ·have g1:R=l'∧S=i':=by
   cases m with
   | zero=>exact⟨r5.symm,r6.symm⟩
   | succ m =>
    simp only[DF,Lq]at r5 r6
    rw [if_pos (.inl (by omega))]at r5 r6
    exact ⟨r5.symm,r6.symm⟩
  obtain ⟨rfl,rfl⟩:=g1
  have c0i:(n:Int)≤(a:Int):=by omega
  simp +contextual (maxSteps:=4000000) only[↓bdD,bdP,Nat.reduceLT,Nat.reduceBEq,Ai,reduceCtorEq,↓reduceIte,r1,w1,w2,c0i]
  exact Left.refl
 have c0i:¬(n:Int)≤(a:Int):=by omega
 obtain ⟨m1,rfl⟩:∃m1,m=m1+1:=⟨m-1,by omega⟩
 simp only[DF,Lq]at r5 r6
 have key:∀c,chC l' i' n=c→c<q.length→i'<c→(¬kI l' c<kI l' i'→R=l'∧S=i')∧(kI l' c<kI l' i'→DF m1 (swp l' i' c) c n=R∧Lq m1 (swp l' i' c) c n=S):=fun c e _ _=>by
  rw [e]at r5 r6
  constructor
  ·intro h
   rw [if_pos (.inr h)]at r5 r6
   exact ⟨r5.symm,r6.symm⟩
  ·intro h
   rw [if_neg (by intro hh;rcases hh with hh | hh;omega;exact hh h)]at r5 r6
   exact ⟨r5,r6⟩
 have hat:∀u v,QS.at ⟨aid,g,l'.length,l'++tl,u,v⟩ ⟨hpO ob qid qg aid g l' tl,M⟩:=fun u v=>QL hne rfl (by omega)
 have hL:∀u v,u<q.length→v<q.length→Be EJ Et H9 [.ref aid g 0 l'.length,I (u:Nat),I (v:Nat)] ⟨hpO ob qid qg aid g l' tl,M⟩=some (.bool (decide (kI l' u<kI l' v)),⟨hpO ob qid qg aid g l' tl,M⟩):=fun u v hu hv=>by
  rw [XD (u:=u) (v:=v) (l'++tl) ⟨hat u v,by dsimp only;omega,by dsimp only;omega⟩,LD (by omega),LD (by omega)]
 have hW:∀c,c<q.length→Be EJ Et Gx [.ref aid g 0 l'.length,I (i':Nat),I (c:Nat)] ⟨hpO ob qid qg aid g l' tl,M⟩=some (.tuple [],⟨hpO ob qid qg aid g (swp l' i' c) tl,M⟩):=fun c hc=>by
  rw [QI (u:=i') (v:=c) (l'++tl) ⟨hat i' c,by dsimp only;omega,by dsimp only;omega⟩,QJ (by omega) (by omega),QK hne (by rw[BC])]
 by_cases c1:b<n∧kI l' b<kI l' a
 ·obtain ⟨c1,c2⟩:=c1
  have hL1:=hL b a (by omega) (by omega)
  have hL2:=hL b i' (by omega) (by omega)
  have hW2:=hW b (by omega)
  obtain ⟨k1,k2⟩:=key b (by unfold chC;rw[←hb,←ha,if_pos ⟨c1,c2⟩]) (by omega) (by omega)
  simp +contextual (maxSteps:=4000000) only[↓bdD,bdP,Nat.reduceLT,Nat.reduceBEq,Ai,Nat.reduceEqDiff,Nat.reduceAdd,reduceCtorEq,↓reduceIte,ty3,r1,w1,w2,w3,hneg,c0i,c1,c2,hL1,hL2,hW2,DD,Dg]
  refine ⟨fun h=>?_,fun h=>?_⟩
  ·obtain ⟨rfl,rfl⟩:=k1 h
   exact Left.refl
  ·obtain ⟨e1,e2⟩:=k2 h
   exact ⟨m1,by omega,_,by omega,by omega,by rw[BC,r4],e1,e2,rfl⟩
 ·have hL2:=hL a i' (by omega) (by omega)
  have hW2:=hW a (by omega)
  obtain ⟨k1,k2⟩:=key a (by unfold chC;rw[←hb,←ha,if_neg c1]) (by omega) (by omega)
  by_cases c3:b<n
  ·have hL1:=hL b a (by omega) (by omega)
   have c2:¬kI l' b<kI l' a:=fun h=>c1 ⟨c3,h⟩
   simp +contextual (maxSteps:=4000000) only[↓bdD,bdP,Nat.reduceLT,Nat.reduceBEq,Ai,Nat.reduceEqDiff,Nat.reduceAdd,reduceCtorEq,↓reduceIte,ty3,r1,w1,w2,w3,hneg,c0i,c3,c2,hL1,hL2,hW2,DD,Dg]
   refine ⟨fun h=>?_,fun h=>?_⟩
   ·obtain ⟨rfl,rfl⟩:=k1 h
    exact Left.refl
   ·obtain ⟨e1,e2⟩:=k2 h
    exact ⟨m1,by omega,_,by omega,by omega,by rw[BC,r4],e1,e2,rfl⟩
  ·simp +contextual (maxSteps:=4000000) only[↓bdD,bdP,Nat.reduceLT,Nat.reduceBEq,Ai,Nat.reduceEqDiff,Nat.reduceAdd,reduceCtorEq,↓reduceIte,ty3,r1,w1,w2,w3,hneg,c0i,c3,hL2,hW2,DD,Dg]
   refine ⟨fun h=>?_,fun h=>?_⟩
   ·obtain ⟨rfl,rfl⟩:=k1 h
    exact Left.refl
   ·obtain ⟨e1,e2⟩:=k2 h
    exact ⟨m1,by omega,_,by omega,by omega,by rw[BC,r4],e1,e2,rfl⟩
end Sim
namespace Sim
open Go Go.Proofs
attribute [local congr] Ap Aq Al AC As Ar Av
theorem mV {ob:Nat→Option IObj} {M qid qg aid g:Nat} {q tl:List It} {x:It} {j k:Nat} (h1:qid<M) (h2:aid<M) (hne:¬aid=qid) (hl:q.length+tl.length≤1000000000):HS.at ⟨qid,qg,aid,g,q,tl,x,j,k⟩ ⟨hpO ob qid qg aid g q tl,M⟩:=by
 refine ⟨?_,?_,?_,h1,h2⟩
 ·simp only[hpO,Aa,if_true]
 ·simp only[hpO,Aa,if_neg hne,if_true]
 ·dsimp only;rw[List.length_append];exact hl
theorem QM {ob:Nat→Option IObj} {qid qg aid g g':Nat} {q tl q' tl':List It}:hpO (hpO ob qid qg aid g q tl) qid qg aid g' q' tl'=hpO ob qid qg aid g' q' tl':=by
 funext i
 simp only[hpO,Aa]
 by_cases c1:i=qid
 ·rw [if_pos c1,if_pos c1]
 ·rw [if_neg c1,if_neg c1,if_neg c1]
  by_cases c2:i=aid
  ·rw [if_pos c2,if_pos c2]
  ·rw [if_neg c2,if_neg c2,if_neg c2]
theorem mW {ob:Nat→Option IObj} {qid qg aid g n:Nat} {q tl:List It} (h1:¬qid=n) (h2:¬aid=n):Aa (hpO ob qid qg aid g q tl) n none=hpO (Aa ob n none) qid qg aid g q tl:=by
 funext i
 simp only[hpO,Aa]
 by_cases c:i=n
 ·rw [if_pos c,if_neg (by rw[c];exact fun e=>h1 e.symm),if_neg (by rw[c];exact fun e=>h2 e.symm),if_pos c]
 ·rw [if_neg c,if_neg c]
theorem yN {ob:Nat→Option IObj} {M qid qg aid g:Nat} {q tl:List It} {a b:Int} (x:It) (ha:a=x.1) (hb:b=(x.2:Nat)) (h:HS.at ⟨qid,qg,aid,g,q,tl,x,0,0⟩ ⟨ob,M⟩):Be bJ HS.at Ia [.ptr qid qg 0 0,.iface 138 (.agg [I a,I b])] ⟨ob,M⟩=some (.tuple [],⟨hpO ob qid qg aid (psQ ⟨qid,qg,aid,g,q,tl,x,0,0⟩).1 (q ++ [x]) (psQ ⟨qid,qg,aid,g,q,tl,x,0,0⟩).2,M⟩):=by
 subst ha;subst hb
 exact Bq yG (i:=⟨qid,qg,aid,g,q,tl,x,0,0⟩) h
theorem Ad5 {ob:Nat→Option IObj} {M qid qg aid g:Nat} {q tl:List It} (h:FE ⟨qid,qg,aid,g,q,tl,dI,0,0⟩ ⟨ob,M⟩):Be bK FE KQ [.ptr qid qg 0 0] ⟨ob,M⟩=some (.iface 138 (itV (q.getD (q.length-1) dI)),⟨hpO (Aa ob M none) qid qg aid g (q.take (q.length-1)) (q.drop (q.length-1)++tl),M+1⟩) :=
 Bq Ad3 (i:=⟨qid,qg,aid,g,q,tl,dI,0,0⟩) h
theorem Ahw {ob:Nat→Option IObj} {M qid qg aid g j:Nat} {q tl:List It} (h:TA ⟨qid,qg,aid,g,q,tl,dI,j,0⟩ ⟨ob,M⟩):Be OR TA OS [.iface 136 (.ptr qid qg 0 0),I (j:Nat)] ⟨ob,M⟩=some (.tuple [],⟨hpO ob qid qg aid g (upF (j+1) q j) tl,M⟩) :=
 Bq Ahu (i:=⟨qid,qg,aid,g,q,tl,dI,j,0⟩) h
theorem yO {ob:Nat→Option IObj} {M qid qg aid g n:Nat} {q tl:List It} (h:J7 ⟨qid,qg,aid,g,q,tl,dI,0,n⟩ ⟨ob,M⟩):Be Ib J7 Ic [.iface 136 (.ptr qid qg 0 0),I 0,I (n:Nat)] ⟨ob,M⟩=some (.bool (decide (0<Lq q.length q 0 n)),⟨hpO ob qid qg aid g (DF q.length q 0 n) tl,M⟩) :=
 Bq yL (i:=⟨qid,qg,aid,g,q,tl,dI,0,n⟩) h
theorem yP {qid qg aid g j k:Nat} {q tl:List It} {x:It} (n:Nat) (hn:q.length+tl.length≤n):q.length+1+(psQ ⟨qid,qg,aid,g,q,tl,x,j,k⟩).2.length≤n+1:=by
 unfold psQ
 dsimp only
 split
 ·simp only[List.length_nil];omega
 ·rename_i h
  dsimp only
  rw [List.length_tail]
  have : 0<tl.length:=List.length_pos_iff.2 h
  omega
def Ie (h:HS):List PV := [h.pi,.iface 138 (itV h.x)]
def J8 (h:HS) (st:Store):Prop:=h.at st∧(h.q++h.tl).length<1000000000
def If (h:HS) (st:Store):PV×Store:=(.tuple [],hpS st.obj st.next h.qid h.qg h.aid (psQ h).1 (FU h.q h.x) (psQ h).2)
noncomputable def e_hpush:Nat×Ent:=(84,.x (Be Ie J8 If))
theorem yQ (x y:HS) (st:Store) (h:Ie x=Ie y) (hx:J8 x st) (hy:J8 y st):If x st=If y st:=by
 simp only[Ie,HS.pi,List.cons.injEq,and_true,PV.iface.injEq,true_and,PV.agg.injEq,PV.int.injEq]at h
 obtain ⟨a1,a2,a3,a4,a5,a6⟩:=HS.same h.1 hx.1 hy.1
 have a7:x.x=y.x:=Prod.ext h.2.1 (by omega)
 simp only[If,psQ,a1,a2,a3,a4,a5,a6,a7]
theorem yR:AM Try.prog e_hpush.1 e_hpush.2:=Cx fun h st hx=>by
 obtain ⟨hx,hb⟩:=hx
 have hne:=HS.ne hx
 have hlt:=HS.lt hx
 obtain ⟨qid,qg,aid,g,q,tl,x,j,k⟩:=h
 obtain ⟨ob,M⟩:=st
 dsimp only at hne hlt hb
 obtain ⟨l1,l2⟩:=hlt
 have hx':=hx
 unfold HS.at at hx
 dsimp only at hx
 obtain ⟨h1,h2,h3,h4⟩:=hx
 have hne2:¬qid=aid:=fun e=>hne e.symm
 rw [List.length_append]at h3 hb
 simp only[Ie,If,HS.p,HS.pi,hpS]
 have hps:∀j k,psQ ⟨qid,qg,aid,g,q,tl,x,j,k⟩=psQ ⟨qid,qg,aid,g,q,tl,x,0,0⟩:=fun _ _=>rfl
 rw [hps j k]
 have hpl:=yP (qid:=qid) (qg:=qg) (aid:=aid) (g:=g) (x:=x) (j:=0) (k:=0) (q:=q) (tl:=tl) (q.length+tl.length) (Nat.le_refl _)
 have sp:=yN (ob:=ob) (M:=M) (qid:=qid) (qg:=qg) (aid:=aid) (g:=g) (q:=q) (tl:=tl) x rfl rfl ⟨h1,h2,by dsimp only;rw[List.length_append];omega,h4⟩
 clear hps
 generalize psQ ⟨qid,qg,aid,g,q,tl,x,0,0⟩=P at *
 obtain ⟨g',tl'⟩:=P
 dsimp only at hpl sp ⊢
 have hql:(q ++ [x]).length=q.length+1:=by simp
 have su:=Ahw (ob:=hpO ob qid qg aid g' (q ++ [x]) tl') (M:=M) (j:=q.length) (q:=q ++ [x]) (tl:=tl') (g:=g') (aid:=aid) (qid:=qid) (qg:=qg) ⟨mV l1 l2 hne (by rw[hql];omega),by dsimp only;omega⟩
 have sl:=Wq (aid:=aid) (g:=g') (n:=(q ++ [x]).length) ((q ++ [x])++tl') (st:=⟨hpO ob qid qg aid g' (q ++ [x]) tl',M⟩) (QL hne rfl (by rw[hql];omega))
 rw [QM]at su
 rw [hql]at sl
 have w1:IntKind.i64.wrap (((q.length+1:Nat):Int)-1)=(q.length:Int):=by rw[Ag (by omega) (by omega)];omega
 have hbox:hpO ob qid qg aid g' (q ++ [x]) tl' qid=some (.arr qg 1 [.ref aid g' 0 (q.length+1)]):=by simp only[hpO,Aa,if_true,hql]
 refine Ch AP (l := [e_qpush,e_qlen,e_hup]) ((Ae yH (Ae Wp (Ae Ahv Ao)))) [] [] 0 Try.func84 rfl (by decide +kernel) (N:=12) rfl (by simp) rfl (by kernel_rfl) ?_
 generalize hO:hpO ob qid qg aid g' (q ++ [x]) tl'=O at *
 simp +contextual (maxSteps:=4000000) only[↓bdD,bdP,Nat.reduceLT,Nat.reduceBEq,Ai,Nat.reduceEqDiff,Nat.reduceAdd,↓reduceIte,e_qpush,e_qlen,e_hup,Try.f84,ty3,Ac5,Ot,sp,sl,su,w1,hbox,DD,Dg]
 exact ⟨_,rfl,Left.refl⟩
def KR (h:HS):List PV := [h.pi]
def KS (h:HS) (st:Store):PV×Store:=(.iface 138 (itV (Bb h.q)),hpS (Aa st.obj st.next none) (st.next+1) h.qid h.qg h.aid h.g (EA h.q) ((D0 h.q).drop (h.q.length-1)++h.tl))
noncomputable def e_hpop:Nat×Ent:=(82,.x (Be KR FE KS))
theorem Ad6 (x y:HS) (st:Store) (h:KR x=KR y) (hx:FE x st) (hy:FE y st):KS x st=KS y st:=by
 simp only[KR,HS.pi,List.cons.injEq,and_true,PV.iface.injEq,true_and]at h
 obtain ⟨a1,a2,a3,a4,a5,a6⟩:=HS.same h hx.1 hy.1
 simp only[KS,a1,a2,a3,a4,a5,a6]
theorem Ad7:AM Try.prog e_hpop.1 e_hpop.2:=Cx fun h st hx=>by
 obtain ⟨hx,hb⟩:=hx
 have hne:=HS.ne hx
 have hlt:=HS.lt hx
 obtain ⟨qid,qg,aid,g,q,tl,x,j,k⟩:=h
 obtain ⟨ob,M⟩:=st
 dsimp only at hne hlt hb
 obtain ⟨l1,l2⟩:=hlt
 unfold HS.at at hx
 dsimp only at hx
 obtain ⟨h1,h2,h3,h4⟩:=hx
 have hne2:¬qid=aid:=fun e=>hne e.symm
 rw [List.length_append]at h3
 simp only[KR,KS,HS.p,HS.pi,hpS]
 obtain ⟨n,hn⟩:∃n,q.length=n+1:=⟨q.length-1,by omega⟩
 have hn1:q.length-1=n:=by omega
 have hsl:(swp q 0 n).length=n+1:=by rw[BC,hn]
 have hpl:D0 q=DF (n+1) (swp q 0 n) 0 n:=by unfold D0;rw[hn1,hn]
 have hpn:(D0 q).length=n+1:=by rw[hpl,JO,hsl]
 have w1:IntKind.i64.wrap (((n+1:Nat):Int)-1)=(n:Int):=by rw[Ag (by omega) (by omega)];omega
 have sl:=Wq (aid:=aid) (g:=g) (n:=n+1) (q++tl) (st:=⟨ob,M⟩) ⟨h2,by dsimp only;rw[List.length_append];omega,by dsimp only;rw[List.length_append];omega⟩
 have sw:=QI (u:=0) (v:=n) (q++tl) (ob:=ob) (M:=M) (n:=n+1) (g:=g) (aid:=aid) ⟨⟨h2,by dsimp only;rw[List.length_append];omega,by dsimp only;rw[List.length_append];omega⟩,by dsimp only;omega,by dsimp only;omega⟩
 have e1:Aa ob aid (some (.arr g 2 ((swp (q++tl) 0 n).map itV)))=hpO ob qid qg aid g (swp q 0 n) tl:=by
  conv => lhs;rw[←MU h1 h2]
  rw [QJ (by omega) (by omega),QK hne (by rw[BC])]
 rw [e1]at sw
 change Be EJ Et Gx [.ref aid g 0 (n+1),I 0,I (n:Nat)] ⟨ob,M⟩=_ at sw
 have sd:=yO (ob:=hpO ob qid qg aid g (swp q 0 n) tl) (M:=M) (n:=n) (q:=swp q 0 n) (tl:=tl) (g:=g) (aid:=aid) (qid:=qid) (qg:=qg) ⟨mV l1 l2 hne (by omega),by dsimp only;omega,by dsimp only;omega⟩
 rw [QM,hsl,←hpl]at sd
 have sp:=Ad5 (ob:=hpO ob qid qg aid g (D0 q) tl) (M:=M) (q:=D0 q) (tl:=tl) (g:=g) (aid:=aid) (qid:=qid) (qg:=qg) ⟨mV l1 l2 hne (by omega),by dsimp only;omega⟩
 rw [mW (by omega) (by omega),QM,hpn,show n+1-1=n by omega]at sp
 have hbox:hpO ob qid qg aid g (swp q 0 n) tl qid=some (.arr qg 1 [.ref aid g 0 (n+1)]):=by simp only[hpO,Aa,if_true,hsl]
 have hbox2:hpO ob qid qg aid g (D0 q) tl qid=some (.arr qg 1 [.ref aid g 0 (n+1)]):=by simp only[hpO,Aa,if_true,hpn]
 rw [hn]at h1
 have ep:Bb q=(D0 q).getD n dI:=by unfold Bb;rw[hn1]
 have eh:EA q=(D0 q).take n:=by unfold EA;rw[hn1]
 rw [ep,eh,hn1]
 refine Ch AP (l := [e_qlen,e_qswap,e_hdown,e_qpop]) ((Ae Wp (Ae QH (Ae yM (Ae Ad4 Ao))))) [] [] 0 Try.func82 rfl (by decide +kernel) (N:=15) rfl (by simp) rfl (by kernel_rfl) ?_
 generalize hO:hpO ob qid qg aid g (swp q 0 n) tl=O at *
 generalize hO2:hpO ob qid qg aid g (D0 q) tl=O2 at *
 simp +contextual (maxSteps:=4000000) only[↓bdD,bdP,Nat.reduceLT,Nat.reduceBEq,Ai,Nat.reduceEqDiff,Nat.reduceAdd,↓reduceIte,e_qlen,e_qswap,e_hdown,e_qpop,Try.f82,ty3,Ot,h1,sl,sw,sd,sp,w1,DD,Dg]
 exact Left.refl
theorem yS {ob:Nat→Option IObj} {M qid qg aid g:Nat} {q tl:List It} {a b:Int} (x:It) (ha:a=x.1) (hb:b=(x.2:Nat)) (h:J8 ⟨qid,qg,aid,g,q,tl,x,0,0⟩ ⟨ob,M⟩):Be Ie J8 If [.iface 136 (.ptr qid qg 0 0),.iface 138 (.agg [I a,I b])] ⟨ob,M⟩=some (.tuple [],⟨hpO ob qid qg aid (psQ ⟨qid,qg,aid,g,q,tl,x,0,0⟩).1 (FU q x) (psQ ⟨qid,qg,aid,g,q,tl,x,0,0⟩).2,M⟩):=by
 subst ha;subst hb
 exact Bq yQ (i:=⟨qid,qg,aid,g,q,tl,x,0,0⟩) h
theorem Ad8 {ob:Nat→Option IObj} {M qid qg aid g:Nat} {q tl:List It} (h:FE ⟨qid,qg,aid,g,q,tl,dI,0,0⟩ ⟨ob,M⟩):Be KR FE KS [.iface 136 (.ptr qid qg 0 0)] ⟨ob,M⟩=some (.iface 138 (itV (Bb q)),⟨hpO (Aa ob M none) qid qg aid g (EA q) ((D0 q).drop (q.length-1)++tl),M+1⟩) :=
 Bq Ad6 (i:=⟨qid,qg,aid,g,q,tl,dI,0,0⟩) h
end Sim
namespace Sim
open Go Go.Proofs
attribute [local congr] Ap Aq Al AC As Ar Av
theorem BF {k:Nat} (h:k≤4611686018427387904):IntKind.i64.wrap ((k:Int)+1)=((k+1:Nat):Int):=by rw[Ag (by omega) (by omega)];omega
def Ba (l:List Nat):List PV:=l.map fun k=>I (k:Nat)
theorem FZ {l:List Nat} {k:Nat} (h:k<l.length):nth (Ba l) k=I ((l.getD k 0:Nat):Int):=DQ (f:=fun k:Nat=>I (k:Nat)) 0 h
theorem CB {l:List Nat}:(Ba l).length=l.length:=List.length_map _
theorem I6 {l:List Nat}:(Ba l).all PV.isInt=true:=by simp[Ba,PV.isInt]
theorem MV {l m:List Nat}:(Ba l=Ba m)=(l=m):=H3 (f:=fun k:Nat=>I (k:Nat)) fun x y h=>by
 simp only[PV.int.injEq,true_and]at h
 omega
def ED (B:Nat) (out:List (List Nat)):List PV:=(List.range out.length).map fun v=>PV.ref (B+5+v) (out.getD v []).length 0 (out.getD v []).length
theorem DV {B:Nat} {out:List (List Nat)}:(ED B out).length=out.length:=by simp[ED]
theorem Eu {B:Nat} {out:List (List Nat)} {u:Nat} (h:u<out.length):nth (ED B out) u=PV.ref (B+5+u) (out.getD u []).length 0 (out.getD u []).length:=by
 unfold ED
 rw [DQ (f:=fun v=>PV.ref (B+5+v) (out.getD v []).length 0 (out.getD v []).length) 0 (by simpa using h)]
 simp [h]
def Ir (B:Nat) (A:List Arc) (out:List (List Nat)) (lv:List Int):PV:=.agg [.ref (B+4) (A.length / 2) 0 A.length,.ref B 1 0 out.length,.ref (B+1) 1 0 lv.length]
structure GrAt (B:Nat) (A:List Arc) (out:List (List Nat)) (lv:List Int) (ob:Nat→Option IObj):Prop where
 o0 : ob B=some (.arr 1 1 (ED B out))
 o1 : ob (B+1)=some (.arr 1 1 (lv.map (PV.int .i64)))
 o2 : ob (B+2)=some (.arr 0 3 [Ir B A out lv])
 o4 : ob (B+4)=some (.arr (A.length / 2) 4 (A.map Dc))
 o5 : ∀u,u<out.length→ob (B+5+u)=some (.arr (out.getD u []).length 1 (Ba (out.getD u [])))
abbrev gP (B:Nat):PV:=.ptr (B+2) 0 0 0
def FF (A:List Arc) (l:List Nat):List Nat:=l.filter fun k=>decide (0<aL A k)
theorem bL {A:List Arc} {l:List Nat} {k:Nat} (h:k<l.length):FF A (l.take (k+1))=FF A (l.take k)++if 0<aL A (l.getD k 0)then [l.getD k 0]else []:=by
 unfold FF
 have e:l.getD k 0=l[k]:=by simp[h]
 rw [List.take_succ_eq_append_getElem h,List.filter_append,e]
 congr 1
 by_cases c:0<aL A l[k] <;> simp[List.filter,c]
theorem mX {A:List Arc} {l:List Nat} {k:Nat}:∃r,FF A l=FF A (l.take k)++r:=⟨FF A (l.drop k),by
 unfold FF
 rw [←List.filter_append,List.take_append_drop]⟩
theorem Ad9 {B u:Nat} {A:List Arc} {out:List (List Nat)} {lv:List Int} (hu:u<out.length) (hk:∀k∈out.getD u [],k<A.length) (hl:(out.getD u []).length≤1000000000) :
  Lw (fun st=>GrAt B A out lv st.obj) Try.prog 0 86 [] [.vptr [gP B] 0,.vptr [I (u:Nat)] 0] ((FF A (out.getD u [])).map fun k => [I (k:Nat)]):=by
 refine Mo (fun st=>GrAt B A out lv st.obj) (l := []) Ao [] [] 0 Try.func86 rfl (by decide +kernel) rfl (N:=34) rfl (by simp) (fun y=>by kernel_rfl) fun y H J E st0 hm h0 hstab hG hy=>?_
 obtain ⟨ob0,M0⟩:=st0
 have g0:=hG _ _ h0
 obtain ⟨n,hn⟩:∃n,(out.getD u []).length=n:=⟨_,rfl⟩
 obtain ⟨l,hl'⟩:∃l,out.getD u []=l:=⟨_,rfl⟩
 rw [hl']at hk hn hl ⊢
 have a0:=g0.o0
 have a2:=g0.o2
 have a5:=g0.o5 u hu
 have hno:=Eu (B:=B) hu
 rw [hl',hn]at a5 hno
 dsimp only at a0 a2 a5
 unfold Ir at a2
 have hol:=DV (B:=B) (out:=out)
 rw [hn]at hl
 simp +contextual (maxSteps:=4000000) only[↓bdD,bdP,Nat.reduceLT,Nat.reduceBEq,Nat.reduceAdd,↓reduceIte,ty3,Bf,AZ,JL,GV,a0,a2,a5,hno,hu,hol]
 refine Ax (hm:=hm) [5,14,15,16,17,18,19,20,21,22,23,24,25,26,27,28,29,30,31,32,33] n (fun k ρ st'=>ρ 14=I k∧J (FF A (l.take k)).length st') (.refl _) ?_ ?_
 ·simp +contextual (maxSteps:=4000000) only[↓bdD,bdP]
  exact h0
 rintro k ρ ⟨ob,M⟩ hkn ⟨h14,hJ⟩
 by_cases hlt:k<n
 ·have hwk:=BF (k:=k) (by omega)
  have g1:=hG _ _ hJ
  have b2:=g1.o2
  have b4:=g1.o4
  have b5:=g1.o5 u hu
  rw [hl',hn]at b5
  dsimp only at b2 b4 b5
  unfold Ir at b2
  have hkl:k<l.length:=by omega
  have hnk:=FZ hkl
  have hnl:(Ba l).length=n:=by rw[CB,hn]
  have hmem:l.getD k 0∈l:=by
   have e:l.getD k 0=l[k]:=by simp[hkl]
   rw [e];exact List.getElem_mem _
  have hA:=hk _ hmem
  have hps:=bL (A:=A) hkl
  obtain ⟨r,hr⟩:=mX (A:=A) (l:=l) (k:=k+1)
  have haL:(A.getD (l.getD k 0) dA).2.2.1=aL A (l.getD k 0):=rfl
  generalize hx:l.getD k 0=x at *
  have hnA:=Ci hA
  have hAl:(A.map Dc).length=A.length:=List.length_map _
  have hxA:(x:Int)<A.length:=by omega
  by_cases c:0<aL A x
  ·rw [if_pos c]at hps
   have z1:(List.map (fun k:Nat => [I (k:Nat)]) (FF A l))[(FF A (l.take k)).length]?=some [I (x:Nat)]:=by
    rw [List.getElem?_map,hr,hps];simp
   simp +contextual (maxSteps:=4000000) only[↓bdD,bdP,Nat.reduceLT,Nat.reduceBEq,Nat.reduceAdd,reduceCtorEq,↓reduceIte,ty3,AZ,JL,KH,GV,Lt,h14,hlt,hwk,b2,b4,b5,hnk,hnl,hnA,hAl,hxA,haL,c]
   refine hy _ _ _ _ (by rw[hl'];exact z1) hJ (fun st2 h2=>?_) (fun st2 h2=>?_)
   ·obtain ⟨ob2,M2⟩:=st2
    simp +contextual (maxSteps:=4000000) only[↓bdD,bdP]
    rw [hps,List.length_append]
    exact h2
   ·simp +contextual (maxSteps:=4000000) only[↓bdD,bdP]
    exact .inr h2
  ·rw [if_neg c,List.append_nil]at hps
   simp +contextual (maxSteps:=4000000) only[↓bdD,bdP,Nat.reduceLT,Nat.reduceBEq,Nat.reduceAdd,↓reduceIte,ty3,AZ,JL,KH,GV,Lt,h14,hlt,hwk,b2,b4,b5,hnk,hnl,hnA,hAl,hxA,haL,c]
   rw [hps]
   exact hJ
 ·have e:k=n:=by omega
  subst e
  rw [←hn,List.take_length]at hJ
  simp +contextual (maxSteps:=4000000) only[↓bdD,bdP,Nat.reduceLT,Nat.reduceBEq,reduceCtorEq,↓reduceIte,h14]
  exact .inl hJ
end Sim
