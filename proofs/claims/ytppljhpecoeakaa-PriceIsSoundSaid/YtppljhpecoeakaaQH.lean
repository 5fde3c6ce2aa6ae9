/- What functions of this seat compute, by values: contracts (lemmas of the statement's proof, under the conditions that each names). -/
import Derived.Test.YtppljhpecoeakaaQC
set_option maxRecDepth 10000
set_option maxHeartbeats 2000000
set_option linter.unusedVariables false
set_option linter.unusedSimpArgs false
namespace Sim
open Go Go.Proofs
attribute [local congr] Aq Ar Al AG At As Az
theorem zL (x y:QS) (st:Store) (h:EO x=EO y) (hx:Ez x st) (hy:Ez y st):Ii x st=Ii y st:=by rw[QS.same3 h hx hy]
theorem zM (x y:QS) (st:Store) (h:EO x=EO y) (hx:Ez x st) (hy:Ez y st):GH x st=GH y st:=by rw[QS.same3 h hx hy]
theorem WU {aid g n:Nat} (l:List It) {st:Store} (h:QS.at ⟨aid,g,n,l,0,0⟩ st):Bi KS QS.at KT [.ref aid g 0 n] st=some (I (n:Nat),st):=Bu Aex (i:=⟨aid,g,n,l,0,0⟩) h
theorem X7 {aid g n u v:Nat} (l:List It) {st:Store} (h:Ez ⟨aid,g,n,l,u,v⟩ st):Bi EO Ez Ii [.ref aid g 0 n,I (u:Nat),I (v:Nat)] st=some (.bool (decide (kI l u<kI l v)),st) :=
 Bu zL (i:=⟨aid,g,n,l,u,v⟩) h
theorem Rd {aid g n u v:Nat} (l:List It) {ob:Nat→Option IObj} {M:Nat} (h:Ez ⟨aid,g,n,l,u,v⟩ ⟨ob,M⟩):Bi EO Ez GH [.ref aid g 0 n,I (u:Nat),I (v:Nat)] ⟨ob,M⟩=some (.tuple [],⟨Aa ob aid (some (.arr g 2 ((swp l u v).map itV))),M⟩) :=
 Bu zM (i:=⟨aid,g,n,l,u,v⟩) h
theorem M9 {l tl:List It} {k:Nat} (h:k<l.length):(l++tl).getD k dI=l.getD k dI:=by
 rw [List.getD_eq_getElem?_getD,List.getElem?_append_left h,List.getD_eq_getElem?_getD]
theorem LL {l tl:List It} {k:Nat} (h:k<l.length):kI (l++tl) k=kI l k:=by unfold kI;rw[M9 h]
theorem Re {l tl:List It} {u v:Nat} (hu:u<l.length) (hv:v<l.length):swp (l++tl) u v=swp l u v++tl:=by
 unfold swp
 rw [M9 hu,M9 hv,List.set_append,if_pos hu,List.set_append,if_pos (by rw[List.length_set];exact hv)]
abbrev hpO (ob:Nat→Option IObj) (qid qg aid g:Nat) (q tl:List It):Nat→Option IObj:=Aa (Aa ob aid (some (.arr g 2 ((q++tl).map itV)))) qid (some (.arr qg 1 [.ref aid g 0 q.length]))
theorem Na {ob:Nat→Option IObj} {qid qg aid g:Nat} {q tl:List It} (h1:ob qid=some (.arr qg 1 [.ref aid g 0 q.length])) (h2:ob aid=some (.arr g 2 ((q++tl).map itV))):hpO ob qid qg aid g q tl=ob:=by
 funext i
 simp only[hpO,Aa]
 by_cases c1:i=qid
 ·rw [if_pos c1,c1,h1]
 ·rw [if_neg c1]
  by_cases c2:i=aid
  ·rw [if_pos c2,c2,h2]
  ·rw [if_neg c2]
theorem Rf {ob:Nat→Option IObj} {qid qg aid g:Nat} {q q' tl:List It} (hne:¬aid=qid) (hl:q'.length=q.length):Aa (hpO ob qid qg aid g q tl) aid (some (.arr g 2 ((q'++tl).map itV)))=hpO ob qid qg aid g q' tl:=by
 funext i
 simp only[hpO,Aa]
 by_cases c1:i=aid
 ·have c2:¬i=qid:=by rw[c1];exact hne
  rw [if_pos c1,if_neg c2,if_pos c1]
 ·rw [if_neg c1,if_neg c1,if_neg c1,hl]
theorem Rg {ob:Nat→Option IObj} {M qid qg aid g n:Nat} {q tl:List It} {u v:Nat} (hne:¬aid=qid) (hn:n=q.length) (hb:q.length+tl.length≤1000000000):QS.at ⟨aid,g,n,q++tl,u,v⟩ ⟨hpO ob qid qg aid g q tl,M⟩:=by
 refine ⟨?_,?_,?_⟩
 ·simp only[hpO,Aa,if_neg hne,if_true]
 ·dsimp only
  rw [List.length_append];omega
 ·dsimp only
  rw [List.length_append];omega
def T0 (h:HS) (st:Store):Prop:=h.at st∧h.j<h.q.length
def Pl (h:HS):List PV := [h.pi,I (h.j:Nat)]
def Pm (h:HS) (st:Store):PV×Store:=(.tuple [],hpS st.obj st.next h.qid h.qg h.aid h.g (upF (h.j+1) h.q h.j) h.tl)
noncomputable def e_hup:Nat×Ent:=(87,.x (Bi Pl T0 Pm))
theorem Ais (x y:HS) (st:Store) (h:Pl x=Pl y) (hx:T0 x st) (hy:T0 y st):Pm x st=Pm y st:=by
 simp only[Pl,HS.pi,List.cons.injEq,and_true,PV.iface.injEq,true_and,PV.int.injEq]at h
 obtain ⟨a1,a2,a3,a4,a5,a6⟩:=HS.same h.1 hx.1 hy.1
 have a7:x.j=y.j:=by omega
 simp only[Pm,a1,a2,a3,a4,a5,a6,a7]
theorem Ajz {j:Nat} (h:j≤1000000000):IntKind.i64.wrap (Int.tdiv ((j:Int)-1) 2)=(((j-1) / 2:Nat):Int):=by
 rcases Nat.eq_zero_or_pos j with rfl | hj
 ·decide
 ·rw [Int.tdiv_eq_ediv_of_nonneg (by omega),Aj (by omega) (by omega)]
  omega
theorem Ait:AL Try.prog e_hup.1 e_hup.2:=Cv fun h st hx=>by
 obtain ⟨hx,hj⟩:=hx
 have hne:=HS.ne hx
 obtain ⟨qid,qg,aid,g,q,tl,x,j,k⟩:=h
 obtain ⟨ob,M⟩:=st
 unfold HS.at at hx
 dsimp only at hx hne hj
 obtain ⟨h1,h2,h3,h4⟩:=hx
 have hne2:¬qid=aid:=fun e=>hne e.symm
 rw [List.length_append]at h3
 simp only[Pl,Pm,HS.p,HS.pi,hpS]
 obtain ⟨R,hR⟩:∃R,upF (j+1) q j=R:=⟨_,rfl⟩
 rw [hR]
 refine Cj AP (l := [e_qless,e_qswap]) ((Ad X6 (Ad Rc An))) [] [] 0 Try.func87 rfl (by decide +kernel) (N:=23) rfl (by simp) rfl (by kernel_rfl) ?_
 simp +contextual (maxSteps:=4000000) only[↓bdD,bdP,e_qless,e_qswap,Try.f87]
 refine CQ [1,4,5,6,7,8,9,10,11,12,13,14,15,16,17,18,19,20,21,22] (j+1) (fun m ρ st'=>∃l' j',ρ 1=I (j':Nat)∧j'<m∧j'<q.length∧l'.length=q.length∧upF m l' j'=R∧st'=⟨hpO ob qid qg aid g l' tl,M⟩) (.refl _) ?_ ?_
 ·refine ⟨q,j,rfl,by omega,hj,rfl,hR,?_⟩
  rw [Na h1 h2]
 rintro m ρ st' ⟨l',j',r1,r2,r3,r4,r5,rfl⟩
 have w1:IntKind.i64.wrap ((j':Int)-1)=(j':Int)-1:=Aj (by omega) (by omega)
 have w2:=Ajz (j:=j') (by omega)
 have hL:=X7 (u:=j') (v:=(j'-1) / 2) (l'++tl) (st:=⟨hpO ob qid qg aid g l' tl,M⟩) (n:=l'.length) (g:=g) (aid:=aid) ⟨Rg hne rfl (by omega),by dsimp only;omega,by dsimp only;omega⟩
 have hS:=Rd (u:=(j'-1) / 2) (v:=j') (l'++tl) (ob:=hpO ob qid qg aid g l' tl) (M:=M) (n:=l'.length) (g:=g) (aid:=aid) ⟨Rg hne rfl (by omega),by dsimp only;omega,by dsimp only;omega⟩
 simp +contextual (maxSteps:=4000000) only[↓bdD,bdP,Nat.reduceLT,Nat.reduceBEq,Ai,Nat.reduceEqDiff,Nat.reduceAdd,reduceCtorEq,Int.reduceEq,↓reduceIte,ty3,r1,w1,w2,hL,hS,DN,Dm]
 obtain ⟨m1,rfl⟩:∃m1,m=m1+1:=⟨m-1,by omega⟩
 have k1:kI (l'++tl) j'=kI l' j':=LL (by omega)
 have k2:kI (l'++tl) ((j'-1) / 2)=kI l' ((j'-1) / 2):=LL (by omega)
 rw [k1,k2]
 simp only[upF]at r5
 refine ⟨fun a=>⟨fun b=>?_,fun b=>?_⟩,fun a=>?_⟩
 ·rw [if_pos (.inr b)]at r5
  subst r5
  exact ⟨_,rfl,Left.refl⟩
 ·rw [if_neg (by simp[a,b])]at r5
  rw [Re (by omega) (by omega)]
  refine ⟨m1,by omega,_,by omega,by omega,?_,r5,?_⟩
  ·rw [BK,r4]
  ·rw [Rf hne (by rw[BK])]
 ·rw [if_pos (.inl a)]at r5
  subst r5
  exact ⟨_,rfl,Left.refl⟩
end Sim
namespace Sim
open Go Go.Proofs
attribute [local congr] Aq Ar Al AG At As Az
def Lx:Nat→List It→Nat→Nat→Nat
 | 0,_,i,_=>i
 | f+1,l,i,n=>if n≤2*i+1∨¬kI l (chC l i n)<kI l i then i else Lx f (swp l i (chC l i n)) (chC l i n) n
def Kb (h:HS) (st:Store):Prop:=h.at st∧h.j<h.q.length∧h.k≤h.q.length
def Ik (h:HS):List PV := [h.pi,I (h.j:Nat),I (h.k:Nat)]
def Il (h:HS) (st:Store):PV×Store:=(.bool (decide (h.j<Lx h.q.length h.q h.j h.k)),hpS st.obj st.next h.qid h.qg h.aid h.g (DO h.q.length h.q h.j h.k) h.tl)
noncomputable def e_hdown:Nat×Ent:=(85,.x (Bi Ik Kb Il))
theorem zN (x y:HS) (st:Store) (h:Ik x=Ik y) (hx:Kb x st) (hy:Kb y st):Il x st=Il y st:=by
 simp only[Ik,HS.pi,List.cons.injEq,and_true,PV.iface.injEq,true_and,PV.int.injEq]at h
 obtain ⟨a1,a2,a3,a4,a5,a6⟩:=HS.same h.1 hx.1 hy.1
 have a7:x.j=y.j:=by omega
 have a8:x.k=y.k:=by omega
 simp only[Il,a1,a2,a3,a4,a5,a6,a7,a8]
theorem zO:AL Try.prog e_hdown.1 e_hdown.2:=Cv fun h st hx=>by
 obtain ⟨hx,hj,hk⟩:=hx
 have hne:=HS.ne hx
 obtain ⟨qid,qg,aid,g,q,tl,x,j,n⟩:=h
 obtain ⟨ob,M⟩:=st
 unfold HS.at at hx
 dsimp only at hx hne hj hk
 obtain ⟨h1,h2,h3,h4⟩:=hx
 have hne2:¬qid=aid:=fun e=>hne e.symm
 rw [List.length_append]at h3
 simp only[Ik,Il,HS.p,HS.pi,hpS]
 obtain ⟨R,hR⟩:∃R,DO q.length q j n=R:=⟨_,rfl⟩
 obtain ⟨S,hS⟩:∃S,Lx q.length q j n=S:=⟨_,rfl⟩
 rw [hR,hS]
 refine Cj AP (l := [e_qless,e_qswap]) ((Ad X6 (Ad Rc An))) [] [] 0 Try.func85 rfl (by decide +kernel) (N:=48) rfl (by simp) rfl (by kernel_rfl) ?_
 simp +contextual (maxSteps:=4000000) only[↓bdD,bdP,Nat.reduceLT,Nat.reduceBEq,e_qless,e_qswap,Try.f85]
 refine CQ [7,8,9,10,12,13,14,15,16,17,18,19,20,21,22,23,24,25,26,27,28,29,30,31,32,33,34,35,36,37,38,39,40,41,42,43,44] q.length (fun m ρ st'=>∃l' i',ρ 7=I (i':Nat)∧q.length≤i'+m∧i'<q.length∧l'.length=q.length∧DO m l' i' n=R∧Lx m l' i' n=S∧st'=⟨hpO ob qid qg aid g l' tl,M⟩) (.refl _) ?_ ?_
 ·simp +contextual (maxSteps:=4000000) only[↓bdD,bdP]
  refine ⟨q,by omega,hj,rfl,hR,hS,?_⟩
  rw [Na h1 h2]
 rintro m ρ st' ⟨l',i',r1,r2,r3,r4,r5,r6,rfl⟩
 obtain ⟨a,ha⟩:∃a,a=2*i'+1:=⟨_,rfl⟩
 obtain ⟨b,hb⟩:∃b,b=2*i'+2:=⟨_,rfl⟩
 have w1:IntKind.i64.wrap (2*(i':Int))=2*(i':Int):=Aj (by omega) (by omega)
 have w2:IntKind.i64.wrap (2*(i':Int)+1)=(a:Int):=by rw[Aj (by omega) (by omega)];omega
 have w3:IntKind.i64.wrap ((a:Int)+1)=(b:Int):=by rw[Aj (by omega) (by omega)];omega
 have hneg:¬(a:Int)<0:=by omega
 by_cases c0:n≤a
 ·have g1:R=l'∧S=i':=by
   cases m with
   | zero=>exact⟨r5.symm,r6.symm⟩
   | succ m =>
    simp only[DO,Lx]at r5 r6
    rw [if_pos (.inl (by omega))]at r5 r6
    exact ⟨r5.symm,r6.symm⟩
  obtain ⟨rfl,rfl⟩:=g1
  have c0i:(n:Int)≤(a:Int):=by omega
  simp +contextual (maxSteps:=4000000) only[↓bdD,bdP,Nat.reduceLT,Nat.reduceBEq,Ai,reduceCtorEq,↓reduceIte,r1,w1,w2,c0i]
  exact Left.refl
 have c0i:¬(n:Int)≤(a:Int):=by omega
 obtain ⟨m1,rfl⟩:∃m1,m=m1+1:=⟨m-1,by omega⟩
 simp only[DO,Lx]at r5 r6
 have key:∀c,chC l' i' n=c→c<q.length→i'<c→(¬kI l' c<kI l' i'→R=l'∧S=i')∧(kI l' c<kI l' i'→DO m1 (swp l' i' c) c n=R∧Lx m1 (swp l' i' c) c n=S):=fun c e _ _=>by
  rw [e]at r5 r6
  constructor
  ·intro h
   rw [if_pos (.inr h)]at r5 r6
   exact ⟨r5.symm,r6.symm⟩
  ·intro h
   rw [if_neg (by intro hh;rcases hh with hh | hh;omega;exact hh h)]at r5 r6
   exact ⟨r5,r6⟩
 have hat:∀u v,QS.at ⟨aid,g,l'.length,l'++tl,u,v⟩ ⟨hpO ob qid qg aid g l' tl,M⟩:=fun u v=>Rg hne rfl (by omega)
 have hL:∀u v,u<q.length→v<q.length→Bi EO Ez Ii [.ref aid g 0 l'.length,I (u:Nat),I (v:Nat)] ⟨hpO ob qid qg aid g l' tl,M⟩=some (.bool (decide (kI l' u<kI l' v)),⟨hpO ob qid qg aid g l' tl,M⟩):=fun u v hu hv=>by
  rw [X7 (u:=u) (v:=v) (l'++tl) ⟨hat u v,by dsimp only;omega,by dsimp only;omega⟩,LL (by omega),LL (by omega)]
 have hW:∀c,c<q.length→Bi EO Ez GH [.ref aid g 0 l'.length,I (i':Nat),I (c:Nat)] ⟨hpO ob qid qg aid g l' tl,M⟩=some (.tuple [],⟨hpO ob qid qg aid g (swp l' i' c) tl,M⟩):=fun c hc=>by
  rw [Rd (u:=i') (v:=c) (l'++tl) ⟨hat i' c,by dsimp only;omega,by dsimp only;omega⟩,Re (by omega) (by omega),Rf hne (by rw[BK])]
 by_cases c1:b<n∧kI l' b<kI l' a
 ·obtain ⟨c1,c2⟩:=c1
  have hL1:=hL b a (by omega) (by omega)
  have hL2:=hL b i' (by omega) (by omega)
  have hW2:=hW b (by omega)
  obtain ⟨k1,k2⟩:=key b (by unfold chC;rw[←hb,←ha,if_pos ⟨c1,c2⟩]) (by omega) (by omega)
  simp +contextual (maxSteps:=4000000) only[↓bdD,bdP,Nat.reduceLT,Nat.reduceBEq,Ai,Nat.reduceEqDiff,Nat.reduceAdd,reduceCtorEq,↓reduceIte,ty3,r1,w1,w2,w3,hneg,c0i,c1,c2,hL1,hL2,hW2,DN,Dm]
  refine ⟨fun h=>?_,fun h=>?_⟩
  ·obtain ⟨rfl,rfl⟩:=k1 h
   exact Left.refl
  ·obtain ⟨e1,e2⟩:=k2 h
   exact ⟨m1,by omega,_,by omega,by omega,by rw[BK,r4],e1,e2,rfl⟩
 ·have hL2:=hL a i' (by omega) (by omega)
  have hW2:=hW a (by omega)
  obtain ⟨k1,k2⟩:=key a (by unfold chC;rw[←hb,←ha,if_neg c1]) (by omega) (by omega)
  by_cases c3:b<n
  ·have hL1:=hL b a (by omega) (by omega)
   have c2:¬kI l' b<kI l' a:=fun h=>c1 ⟨c3,h⟩
   simp +contextual (maxSteps:=4000000) only[↓bdD,bdP,Nat.reduceLT,Nat.reduceBEq,Ai,Nat.reduceEqDiff,Nat.reduceAdd,reduceCtorEq,↓reduceIte,ty3,r1,w1,w2,w3,hneg,c0i,c3,c2,hL1,hL2,hW2,DN,Dm]
   refine ⟨fun h=>?_,fun h=>?_⟩
   ·obtain ⟨rfl,rfl⟩:=k1 h
    exact Left.refl
   ·obtain ⟨e1,e2⟩:=k2 h
    exact ⟨m1,by omega,_,by omega,by omega,by rw[BK,r4],e1,e2,rfl⟩
  ·simp +contextual (maxSteps:=4000000) only[↓bdD,bdP,Nat.reduceLT,Nat.reduceBEq,Ai,Nat.reduceEqDiff,Nat.reduceAdd,reduceCtorEq,↓reduceIte,ty3,r1,w1,w2,w3,hneg,c0i,c3,hL2,hW2,DN,Dm]
   refine ⟨fun h=>?_,fun h=>?_⟩
   ·obtain ⟨rfl,rfl⟩:=k1 h
    exact Left.refl
   ·obtain ⟨e1,e2⟩:=k2 h
    exact ⟨m1,by omega,_,by omega,by omega,by rw[BK,r4],e1,e2,rfl⟩
end Sim
namespace Sim
open Go Go.Proofs
attribute [local congr] Aq Ar Al AG At As Az
theorem oI {ob:Nat→Option IObj} {M qid qg aid g:Nat} {q tl:List It} {x:It} {j k:Nat} (h1:qid<M) (h2:aid<M) (hne:¬aid=qid) (hl:q.length+tl.length≤1000000000):HS.at ⟨qid,qg,aid,g,q,tl,x,j,k⟩ ⟨hpO ob qid qg aid g q tl,M⟩:=by
 refine ⟨?_,?_,?_,h1,h2⟩
 ·simp only[hpO,Aa,if_true]
 ·simp only[hpO,Aa,if_neg hne,if_true]
 ·dsimp only;rw[List.length_append];exact hl
theorem Rh {ob:Nat→Option IObj} {qid qg aid g g':Nat} {q tl q' tl':List It}:hpO (hpO ob qid qg aid g q tl) qid qg aid g' q' tl'=hpO ob qid qg aid g' q' tl':=by
 funext i
 simp only[hpO,Aa]
 by_cases c1:i=qid
 ·rw [if_pos c1,if_pos c1]
 ·rw [if_neg c1,if_neg c1,if_neg c1]
  by_cases c2:i=aid
  ·rw [if_pos c2,if_pos c2]
  ·rw [if_neg c2,if_neg c2,if_neg c2]
theorem oJ {ob:Nat→Option IObj} {qid qg aid g n:Nat} {q tl:List It} (h1:¬qid=n) (h2:¬aid=n):Aa (hpO ob qid qg aid g q tl) n none=hpO (Aa ob n none) qid qg aid g q tl:=by
 funext i
 simp only[hpO,Aa]
 by_cases c:i=n
 ·rw [if_pos c,if_neg (by rw[c];exact fun e=>h1 e.symm),if_neg (by rw[c];exact fun e=>h2 e.symm),if_pos c]
 ·rw [if_neg c,if_neg c]
theorem zP {ob:Nat→Option IObj} {M qid qg aid g:Nat} {q tl:List It} {a b:Int} (x:It) (ha:a=x.1) (hb:b=(x.2:Nat)) (h:HS.at ⟨qid,qg,aid,g,q,tl,x,0,0⟩ ⟨ob,M⟩):Bi cT HS.at Ij [.ptr qid qg 0 0,.iface 138 (.agg [I a,I b])] ⟨ob,M⟩=some (.tuple [],⟨hpO ob qid qg aid (psQ ⟨qid,qg,aid,g,q,tl,x,0,0⟩).1 (q ++ [x]) (psQ ⟨qid,qg,aid,g,q,tl,x,0,0⟩).2,M⟩):=by
 subst ha;subst hb
 exact Bu zJ (i:=⟨qid,qg,aid,g,q,tl,x,0,0⟩) h
theorem Ae0 {ob:Nat→Option IObj} {M qid qg aid g:Nat} {q tl:List It} (h:FK ⟨qid,qg,aid,g,q,tl,dI,0,0⟩ ⟨ob,M⟩):Bi cU FK KU [.ptr qid qg 0 0] ⟨ob,M⟩=some (.iface 138 (itV (q.getD (q.length-1) dI)),⟨hpO (Aa ob M none) qid qg aid g (q.take (q.length-1)) (q.drop (q.length-1)++tl),M+1⟩) :=
 Bu Aey (i:=⟨qid,qg,aid,g,q,tl,dI,0,0⟩) h
theorem Aiu {ob:Nat→Option IObj} {M qid qg aid g j:Nat} {q tl:List It} (h:T0 ⟨qid,qg,aid,g,q,tl,dI,j,0⟩ ⟨ob,M⟩):Bi Pl T0 Pm [.iface 136 (.ptr qid qg 0 0),I (j:Nat)] ⟨ob,M⟩=some (.tuple [],⟨hpO ob qid qg aid g (upF (j+1) q j) tl,M⟩) :=
 Bu Ais (i:=⟨qid,qg,aid,g,q,tl,dI,j,0⟩) h
theorem zQ {ob:Nat→Option IObj} {M qid qg aid g n:Nat} {q tl:List It} (h:Kb ⟨qid,qg,aid,g,q,tl,dI,0,n⟩ ⟨ob,M⟩):Bi Ik Kb Il [.iface 136 (.ptr qid qg 0 0),I 0,I (n:Nat)] ⟨ob,M⟩=some (.bool (decide (0<Lx q.length q 0 n)),⟨hpO ob qid qg aid g (DO q.length q 0 n) tl,M⟩) :=
 Bu zN (i:=⟨qid,qg,aid,g,q,tl,dI,0,n⟩) h
theorem zR {qid qg aid g j k:Nat} {q tl:List It} {x:It} (n:Nat) (hn:q.length+tl.length≤n):q.length+1+(psQ ⟨qid,qg,aid,g,q,tl,x,j,k⟩).2.length≤n+1:=by
 unfold psQ
 dsimp only
 split
 ·simp only[List.length_nil];omega
 ·rename_i h
  dsimp only
  rw [List.length_tail]
  have : 0<tl.length:=List.length_pos_iff.2 h
  omega
def Im (h:HS):List PV := [h.pi,.iface 138 (itV h.x)]
def Kc (h:HS) (st:Store):Prop:=h.at st∧(h.q++h.tl).length<1000000000
def Io (h:HS) (st:Store):PV×Store:=(.tuple [],hpS st.obj st.next h.qid h.qg h.aid (psQ h).1 (F3 h.q h.x) (psQ h).2)
noncomputable def e_hpush:Nat×Ent:=(84,.x (Bi Im Kc Io))
theorem zS (x y:HS) (st:Store) (h:Im x=Im y) (hx:Kc x st) (hy:Kc y st):Io x st=Io y st:=by
 simp only[Im,HS.pi,List.cons.injEq,and_true,PV.iface.injEq,true_and,PV.agg.injEq,PV.int.injEq]at h
 obtain ⟨a1,a2,a3,a4,a5,a6⟩:=HS.same h.1 hx.1 hy.1
 have a7:x.x=y.x:=Prod.ext h.2.1 (by omega)
 simp only[Io,psQ,a1,a2,a3,a4,a5,a6,a7]
theorem zT:AL Try.prog e_hpush.1 e_hpush.2:=Cv fun h st hx=>by
 obtain ⟨hx,hb⟩:=hx
 have hne:=HS.ne hx
 have hlt:=HS.lt hx
 obtain ⟨qid,qg,aid,g,q,tl,x,j,k⟩:=h
 obtain ⟨ob,M⟩:=st
 dsimp only at hne hlt hb
 obtain ⟨l1,l2⟩:=hlt
 have hx':=hx
 unfold HS.at at hx
 dsimp only at hx
 obtain ⟨h1,h2,h3,h4⟩:=hx
 have hne2:¬qid=aid:=fun e=>hne e.symm
 rw [List.length_append]at h3 hb
 simp only[Im,Io,HS.p,HS.pi,hpS]
 have hps:∀j k,psQ ⟨qid,qg,aid,g,q,tl,x,j,k⟩=psQ ⟨qid,qg,aid,g,q,tl,x,0,0⟩:=fun _ _=>rfl
 rw [hps j k]
 have hpl:=zR (qid:=qid) (qg:=qg) (aid:=aid) (g:=g) (x:=x) (j:=0) (k:=0) (q:=q) (tl:=tl) (q.length+tl.length) (Nat.le_refl _)
 have sp:=zP (ob:=ob) (M:=M) (qid:=qid) (qg:=qg) (aid:=aid) (g:=g) (q:=q) (tl:=tl) x rfl rfl ⟨h1,h2,by dsimp only;rw[List.length_append];omega,h4⟩
 clear hps
 generalize psQ ⟨qid,qg,aid,g,q,tl,x,0,0⟩=P at *
 obtain ⟨g',tl'⟩:=P
 dsimp only at hpl sp ⊢
 have hql:(q ++ [x]).length=q.length+1:=by simp
 have su:=Aiu (ob:=hpO ob qid qg aid g' (q ++ [x]) tl') (M:=M) (j:=q.length) (q:=q ++ [x]) (tl:=tl') (g:=g') (aid:=aid) (qid:=qid) (qg:=qg) ⟨oI l1 l2 hne (by rw[hql];omega),by dsimp only;omega⟩
 have sl:=WU (aid:=aid) (g:=g') (n:=(q ++ [x]).length) ((q ++ [x])++tl') (st:=⟨hpO ob qid qg aid g' (q ++ [x]) tl',M⟩) (Rg hne rfl (by rw[hql];omega))
 rw [Rh]at su
 rw [hql]at sl
 have w1:IntKind.i64.wrap (((q.length+1:Nat):Int)-1)=(q.length:Int):=by rw[Aj (by omega) (by omega)];omega
 have hbox:hpO ob qid qg aid g' (q ++ [x]) tl' qid=some (.arr qg 1 [.ref aid g' 0 (q.length+1)]):=by simp only[hpO,Aa,if_true,hql]
 refine Cj AP (l := [e_qpush,e_qlen,e_hup]) ((Ad zK (Ad WT (Ad Ait An)))) [] [] 0 Try.func84 rfl (by decide +kernel) (N:=12) rfl (by simp) rfl (by kernel_rfl) ?_
 generalize hO:hpO ob qid qg aid g' (q ++ [x]) tl'=O at *
 simp +contextual (maxSteps:=4000000) only[↓bdD,bdP,Nat.reduceLT,Nat.reduceBEq,Ai,Nat.reduceEqDiff,Nat.reduceAdd,↓reduceIte,e_qpush,e_qlen,e_hup,Try.f84,ty3,Ady,OH,sp,sl,su,w1,hbox,DN,Dm]
 exact ⟨_,rfl,Left.refl⟩
def KV (h:HS):List PV := [h.pi]
def KW (h:HS) (st:Store):PV×Store:=(.iface 138 (itV (Bf h.q)),hpS (Aa st.obj st.next none) (st.next+1) h.qid h.qg h.aid h.g (EF h.q) ((Ec h.q).drop (h.q.length-1)++h.tl))
noncomputable def e_hpop:Nat×Ent:=(82,.x (Bi KV FK KW))
theorem Ae1 (x y:HS) (st:Store) (h:KV x=KV y) (hx:FK x st) (hy:FK y st):KW x st=KW y st:=by
 simp only[KV,HS.pi,List.cons.injEq,and_true,PV.iface.injEq,true_and]at h
 obtain ⟨a1,a2,a3,a4,a5,a6⟩:=HS.same h hx.1 hy.1
 simp only[KW,a1,a2,a3,a4,a5,a6]
theorem Ae2:AL Try.prog e_hpop.1 e_hpop.2:=Cv fun h st hx=>by
 obtain ⟨hx,hb⟩:=hx
 have hne:=HS.ne hx
 have hlt:=HS.lt hx
 obtain ⟨qid,qg,aid,g,q,tl,x,j,k⟩:=h
 obtain ⟨ob,M⟩:=st
 dsimp only at hne hlt hb
 obtain ⟨l1,l2⟩:=hlt
 unfold HS.at at hx
 dsimp only at hx
 obtain ⟨h1,h2,h3,h4⟩:=hx
 have hne2:¬qid=aid:=fun e=>hne e.symm
 rw [List.length_append]at h3
 simp only[KV,KW,HS.p,HS.pi,hpS]
 obtain ⟨n,hn⟩:∃n,q.length=n+1:=⟨q.length-1,by omega⟩
 have hn1:q.length-1=n:=by omega
 have hsl:(swp q 0 n).length=n+1:=by rw[BK,hn]
 have hpl:Ec q=DO (n+1) (swp q 0 n) 0 n:=by unfold Ec;rw[hn1,hn]
 have hpn:(Ec q).length=n+1:=by rw[hpl,JT,hsl]
 have w1:IntKind.i64.wrap (((n+1:Nat):Int)-1)=(n:Int):=by rw[Aj (by omega) (by omega)];omega
 have sl:=WU (aid:=aid) (g:=g) (n:=n+1) (q++tl) (st:=⟨ob,M⟩) ⟨h2,by dsimp only;rw[List.length_append];omega,by dsimp only;rw[List.length_append];omega⟩
 have sw:=Rd (u:=0) (v:=n) (q++tl) (ob:=ob) (M:=M) (n:=n+1) (g:=g) (aid:=aid) ⟨⟨h2,by dsimp only;rw[List.length_append];omega,by dsimp only;rw[List.length_append];omega⟩,by dsimp only;omega,by dsimp only;omega⟩
 have e1:Aa ob aid (some (.arr g 2 ((swp (q++tl) 0 n).map itV)))=hpO ob qid qg aid g (swp q 0 n) tl:=by
  conv => lhs;rw[←Na h1 h2]
  rw [Re (by omega) (by omega),Rf hne (by rw[BK])]
 rw [e1]at sw
 change Bi EO Ez GH [.ref aid g 0 (n+1),I 0,I (n:Nat)] ⟨ob,M⟩=_ at sw
 have sd:=zQ (ob:=hpO ob qid qg aid g (swp q 0 n) tl) (M:=M) (n:=n) (q:=swp q 0 n) (tl:=tl) (g:=g) (aid:=aid) (qid:=qid) (qg:=qg) ⟨oI l1 l2 hne (by omega),by dsimp only;omega,by dsimp only;omega⟩
 rw [Rh,hsl,←hpl]at sd
 have sp:=Ae0 (ob:=hpO ob qid qg aid g (Ec q) tl) (M:=M) (q:=Ec q) (tl:=tl) (g:=g) (aid:=aid) (qid:=qid) (qg:=qg) ⟨oI l1 l2 hne (by omega),by dsimp only;omega⟩
 rw [oJ (by omega) (by omega),Rh,hpn,show n+1-1=n by omega]at sp
 have hbox:hpO ob qid qg aid g (swp q 0 n) tl qid=some (.arr qg 1 [.ref aid g 0 (n+1)]):=by simp only[hpO,Aa,if_true,hsl]
 have hbox2:hpO ob qid qg aid g (Ec q) tl qid=some (.arr qg 1 [.ref aid g 0 (n+1)]):=by simp only[hpO,Aa,if_true,hpn]
 rw [hn]at h1
 have ep:Bf q=(Ec q).getD n dI:=by unfold Bf;rw[hn1]
 have eh:EF q=(Ec q).take n:=by unfold EF;rw[hn1]
 rw [ep,eh,hn1]
 refine Cj AP (l := [e_qlen,e_qswap,e_hdown,e_qpop]) ((Ad WT (Ad Rc (Ad zO (Ad Aez An))))) [] [] 0 Try.func82 rfl (by decide +kernel) (N:=15) rfl (by simp) rfl (by kernel_rfl) ?_
 generalize hO:hpO ob qid qg aid g (swp q 0 n) tl=O at *
 generalize hO2:hpO ob qid qg aid g (Ec q) tl=O2 at *
 simp +contextual (maxSteps:=4000000) only[↓bdD,bdP,Nat.reduceLT,Nat.reduceBEq,Ai,Nat.reduceEqDiff,Nat.reduceAdd,↓reduceIte,e_qlen,e_qswap,e_hdown,e_qpop,Try.f82,ty3,OH,h1,sl,sw,sd,sp,w1,DN,Dm]
 exact Left.refl
theorem zU {ob:Nat→Option IObj} {M qid qg aid g:Nat} {q tl:List It} {a b:Int} (x:It) (ha:a=x.1) (hb:b=(x.2:Nat)) (h:Kc ⟨qid,qg,aid,g,q,tl,x,0,0⟩ ⟨ob,M⟩):Bi Im Kc Io [.iface 136 (.ptr qid qg 0 0),.iface 138 (.agg [I a,I b])] ⟨ob,M⟩=some (.tuple [],⟨hpO ob qid qg aid (psQ ⟨qid,qg,aid,g,q,tl,x,0,0⟩).1 (F3 q x) (psQ ⟨qid,qg,aid,g,q,tl,x,0,0⟩).2,M⟩):=by
 subst ha;subst hb
 exact Bu zS (i:=⟨qid,qg,aid,g,q,tl,x,0,0⟩) h
theorem Ae3 {ob:Nat→Option IObj} {M qid qg aid g:Nat} {q tl:List It} (h:FK ⟨qid,qg,aid,g,q,tl,dI,0,0⟩ ⟨ob,M⟩):Bi KV FK KW [.iface 136 (.ptr qid qg 0 0)] ⟨ob,M⟩=some (.iface 138 (itV (Bf q)),⟨hpO (Aa ob M none) qid qg aid g (EF q) ((Ec q).drop (q.length-1)++tl),M+1⟩) :=
 Bu Ae1 (i:=⟨qid,qg,aid,g,q,tl,dI,0,0⟩) h
end Sim
namespace Sim
open Go Go.Proofs
attribute [local congr] Aq Ar Al AG At As Az
theorem BO {k:Nat} (h:k≤4611686018427387904):IntKind.i64.wrap ((k:Int)+1)=((k+1:Nat):Int):=by rw[Aj (by omega) (by omega)];omega
def Be (l:List Nat):List PV:=l.map fun k=>I (k:Nat)
theorem Gc {l:List Nat} {k:Nat} (h:k<l.length):nth (Be l) k=I ((l.getD k 0:Nat):Int):=Es (f:=fun k:Nat=>I (k:Nat)) 0 h
theorem CA {l:List Nat}:(Be l).length=l.length:=List.length_map _
theorem Jc {l:List Nat}:(Be l).all PV.isInt=true:=by simp[Be,PV.isInt]
theorem Nb {l m:List Nat}:(Be l=Be m)=(l=m):=Ia (f:=fun k:Nat=>I (k:Nat)) fun x y h=>by
 simp only[PV.int.injEq,true_and]at h
 omega
def EH (B:Nat) (out:List (List Nat)):List PV:=(List.range out.length).map fun v=>PV.ref (B+5+v) (out.getD v []).length 0 (out.getD v []).length
theorem D6 {B:Nat} {out:List (List Nat)}:(EH B out).length=out.length:=by simp[EH]
theorem EA {B:Nat} {out:List (List Nat)} {u:Nat} (h:u<out.length):nth (EH B out) u=PV.ref (B+5+u) (out.getD u []).length 0 (out.getD u []).length:=by
 unfold EH
 rw [Es (f:=fun v=>PV.ref (B+5+v) (out.getD v []).length 0 (out.getD v []).length) 0 (by simpa using h)]
 simp [h]
def Iz (B:Nat) (A:List Arc) (out:List (List Nat)) (lv:List Int):PV:=.agg [.ref (B+4) (A.length / 2) 0 A.length,.ref B 1 0 out.length,.ref (B+1) 1 0 lv.length]
structure GrAt (B:Nat) (A:List Arc) (out:List (List Nat)) (lv:List Int) (ob:Nat→Option IObj):Prop where
 o0 : ob B=some (.arr 1 1 (EH B out))
 o1 : ob (B+1)=some (.arr 1 1 (lv.map (PV.int .i64)))
 o2 : ob (B+2)=some (.arr 0 3 [Iz B A out lv])
 o4 : ob (B+4)=some (.arr (A.length / 2) 4 (A.map Dj))
 o5 : ∀u,u<out.length→ob (B+5+u)=some (.arr (out.getD u []).length 1 (Be (out.getD u [])))
abbrev gP (B:Nat):PV:=.ptr (B+2) 0 0 0
def FL (A:List Arc) (l:List Nat):List Nat:=l.filter fun k=>decide (0<aL A k)
theorem cV {A:List Arc} {l:List Nat} {k:Nat} (h:k<l.length):FL A (l.take (k+1))=FL A (l.take k)++if 0<aL A (l.getD k 0)then [l.getD k 0]else []:=by
 unfold FL
 have e:l.getD k 0=l[k]:=by simp[h]
 rw [List.take_succ_eq_append_getElem h,List.filter_append,e]
 congr 1
 by_cases c:0<aL A l[k] <;> simp[List.filter,c]
theorem oK {A:List Arc} {l:List Nat} {k:Nat}:∃r,FL A l=FL A (l.take k)++r:=⟨FL A (l.drop k),by
 unfold FL
 rw [←List.filter_append,List.take_append_drop]⟩
theorem Ae4 {B u:Nat} {A:List Arc} {out:List (List Nat)} {lv:List Int} (hu:u<out.length) (hk:∀k∈out.getD u [],k<A.length) (hl:(out.getD u []).length≤1000000000) :
  LD (fun st=>GrAt B A out lv st.obj) Try.prog 0 86 [] [.vptr [gP B] 0,.vptr [I (u:Nat)] 0] ((FL A (out.getD u [])).map fun k => [I (k:Nat)]):=by
 refine Mu (fun st=>GrAt B A out lv st.obj) (l := []) An [] [] 0 Try.func86 rfl (by decide +kernel) rfl (N:=34) rfl (by simp) (fun y=>by kernel_rfl) fun y H J E st0 hm h0 hstab hG hy=>?_
 obtain ⟨ob0,M0⟩:=st0
 have g0:=hG _ _ h0
 obtain ⟨n,hn⟩:∃n,(out.getD u []).length=n:=⟨_,rfl⟩
 obtain ⟨l,hl'⟩:∃l,out.getD u []=l:=⟨_,rfl⟩
 rw [hl']at hk hn hl ⊢
 have a0:=g0.o0
 have a2:=g0.o2
 have a5:=g0.o5 u hu
 have hno:=EA (B:=B) hu
 rw [hl',hn]at a5 hno
 dsimp only at a0 a2 a5
 unfold Iz at a2
 have hol:=D6 (B:=B) (out:=out)
 rw [hn]at hl
 simp +contextual (maxSteps:=4000000) only[↓bdD,bdP,Nat.reduceLT,Nat.reduceBEq,Nat.reduceAdd,↓reduceIte,ty3,Bk,A4,JQ,Hb,a0,a2,a5,hno,hu,hol]
 refine Ay (hm:=hm) [5,14,15,16,17,18,19,20,21,22,23,24,25,26,27,28,29,30,31,32,33] n (fun k ρ st'=>ρ 14=I k∧J (FL A (l.take k)).length st') (.refl _) ?_ ?_
 ·simp +contextual (maxSteps:=4000000) only[↓bdD,bdP]
  exact h0
 rintro k ρ ⟨ob,M⟩ hkn ⟨h14,hJ⟩
 by_cases hlt:k<n
 ·have hwk:=BO (k:=k) (by omega)
  have g1:=hG _ _ hJ
  have b2:=g1.o2
  have b4:=g1.o4
  have b5:=g1.o5 u hu
  rw [hl',hn]at b5
  dsimp only at b2 b4 b5
  unfold Iz at b2
  have hkl:k<l.length:=by omega
  have hnk:=Gc hkl
  have hnl:(Be l).length=n:=by rw[CA,hn]
  have hmem:l.getD k 0∈l:=by
   have e:l.getD k 0=l[k]:=by simp[hkl]
   rw [e];exact List.getElem_mem _
  have hA:=hk _ hmem
  have hps:=cV (A:=A) hkl
  obtain ⟨r,hr⟩:=oK (A:=A) (l:=l) (k:=k+1)
  have haL:(A.getD (l.getD k 0) dA).2.2.1=aL A (l.getD k 0):=rfl
  generalize hx:l.getD k 0=x at *
  have hnA:=Ck hA
  have hAl:(A.map Dj).length=A.length:=List.length_map _
  have hxA:(x:Int)<A.length:=by omega
  by_cases c:0<aL A x
  ·rw [if_pos c]at hps
   have z1:(List.map (fun k:Nat => [I (k:Nat)]) (FL A l))[(FL A (l.take k)).length]?=some [I (x:Nat)]:=by
    rw [List.getElem?_map,hr,hps];simp
   simp +contextual (maxSteps:=4000000) only[↓bdD,bdP,Nat.reduceLT,Nat.reduceBEq,Nat.reduceAdd,reduceCtorEq,↓reduceIte,ty3,A4,JQ,KM,Hb,LA,h14,hlt,hwk,b2,b4,b5,hnk,hnl,hnA,hAl,hxA,haL,c]
   refine hy _ _ _ _ (by rw[hl'];exact z1) hJ (fun st2 h2=>?_) (fun st2 h2=>?_)
   ·obtain ⟨ob2,M2⟩:=st2
    simp +contextual (maxSteps:=4000000) only[↓bdD,bdP]
    rw [hps,List.length_append]
    exact h2
   ·simp +contextual (maxSteps:=4000000) only[↓bdD,bdP]
    exact .inr h2
  ·rw [if_neg c,List.append_nil]at hps
   simp +contextual (maxSteps:=4000000) only[↓bdD,bdP,Nat.reduceLT,Nat.reduceBEq,Nat.reduceAdd,↓reduceIte,ty3,A4,JQ,KM,Hb,LA,h14,hlt,hwk,b2,b4,b5,hnk,hnl,hnA,hAl,hxA,haL,c]
   rw [hps]
   exact hJ
 ·have e:k=n:=by omega
  subst e
  rw [←hn,List.take_length]at hJ
  simp +contextual (maxSteps:=4000000) only[↓bdD,bdP,Nat.reduceLT,Nat.reduceBEq,reduceCtorEq,↓reduceIte,h14]
  exact .inl hJ
end Sim
