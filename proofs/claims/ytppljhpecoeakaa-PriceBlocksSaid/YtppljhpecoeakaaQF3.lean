/- What functions of this seat compute, by values: contracts (lemmas of the statement's proof, under the conditions that each names). -/
import Derived.Test.YtppljhpecoeakaaQF2
set_option linter.unusedVariables false
set_option linter.unusedSimpArgs false
namespace Sim
abbrev Arc:=Nat×Nat×Int×Int
abbrev dA:Arc:=(0,0,0,0)
def aF (A:List Arc) (k:Nat):Nat:=(A.getD k dA).1
def aT (A:List Arc) (k:Nat):Nat:=(A.getD k dA).2.1
def aL (A:List Arc) (k:Nat):Int:=(A.getD k dA).2.2.1
def aP (A:List Arc) (k:Nat):Int:=(A.getD k dA).2.2.2
structure DS where
 far : List Int
 last : List Int
 done : List Bool
 q : List It
def nxt (A:List Arc) (lv:List Int) (d:Int) (k:Nat):Int:=d+aP A k+lv.getD (aF A k) 0-lv.getD (aT A k) 0
def rlx (A:List Arc) (lv:List Int) (d:Int) (st:DS) (k:Nat):DS :=
 if 0<aL A k∧(st.far.getD (aT A k) 0<0∨nxt A lv d k<st.far.getD (aT A k) 0)then⟨st.far.set (aT A k) (nxt A lv d k),st.last.set (aT A k) k,st.done,FO st.q (nxt A lv d k,aT A k)⟩else st
def Iz (st:DS):DS:=⟨st.far,st.last,st.done.set (A9 st.q).2 true,Et st.q⟩
def Ei (A:List Arc) (out:List (List Nat)) (lv:List Int) (st:DS):DS :=
 if st.done.getD (A9 st.q).2 true=true then⟨st.far,st.last,st.done,Et st.q⟩else (out.getD (A9 st.q).2 []).foldl (rlx A lv (A9 st.q).1) (Iz st)
def Ik (A:List Arc) (out:List (List Nat)) (lv:List Int):Nat→DS→DS
 | 0,st=>st
 | f+1,st=>if st.q.length=0 then st else Ik A out lv f (Ei A out lv st)
inductive Rch (A:List Arc) (s:Nat):Nat→Prop
 | src:Rch A s s
 | arc (k:Nat) (hk:k<A.length) (hl:0<aL A k) (h:Rch A s (aF A k)):Rch A s (aT A k)
structure Gr (A:List Arc) (out:List (List Nat)) (lv:List Int) (N s:Nat):Prop where
 ar : ∀k,k<A.length→aF A k<N∧aT A k<N
 out1 : ∀u,u<N→∀k∈out.getD u [],k<A.length∧aF A k=u
 out2 : ∀k,k<A.length→k∈out.getD (aF A k) []
 lo : out.length=N
 ll : lv.length=N
 sN : s<N
 pr : ∀k,k<A.length → -1000000≤aP A k∧aP A k≤1000000
 rc : ∀k,k<A.length→0<aL A k→Rch A s (aF A k)→0≤aP A k+lv.getD (aF A k) 0-lv.getD (aT A k) 0
 l0 : lv.getD s 0=0
theorem CW {l:List Int} {i k:Nat} {x:Int} (h:i<l.length):(l.set i x).getD k 0=if k=i then x else l.getD k 0:=by
 rw [List.getD_eq_getElem?_getD,List.getElem?_set]
 by_cases e:k=i
 ·subst e;simp[h]
 ·have e':¬i=k:=fun g=>e g.symm
  rw [if_neg e',if_neg e,List.getD_eq_getElem?_getD]
theorem EU {l:List Bool} {i k:Nat} {x d:Bool} (h:i<l.length):(l.set i x).getD k d=if k=i then x else l.getD k d:=by
 rw [List.getD_eq_getElem?_getD,List.getElem?_set]
 by_cases e:k=i
 ·subst e;simp[h]
 ·have e':¬i=k:=fun g=>e g.symm
  rw [if_neg e',if_neg e,List.getD_eq_getElem?_getD]
structure DI (A:List Arc) (lv:List Int) (N s:Nat) (st:DS) (d:Int) (E:Nat→Prop) (dp:Nat→Nat):Prop where
 lf : st.far.length=N
 ll : st.last.length=N
 ld : st.done.length=N
 hp : Lh st.q st.q.length
 rch : ∀v,v<N→0≤st.far.getD v 0→Rch A s v
 qin : ∀x∈st.q,x.2<N∧0≤st.far.getD x.2 0∧st.far.getD x.2 0≤x.1
 cur : ∀v,v<N→0≤st.far.getD v 0→st.done.getD v true=false→(st.far.getD v 0,v)∈st.q
 dn : ∀v,v<N→st.done.getD v true=true→0≤st.far.getD v 0∧st.far.getD v 0≤d
 low : ∀x∈st.q,d≤x.1
 clo : ∀k,k<A.length→st.done.getD (aF A k) true=true→0<aL A k→E k→0≤st.far.getD (aT A k) 0∧st.far.getD (aT A k) 0≤nxt A lv (st.far.getD (aF A k) 0) k
 src : st.far.getD s 0=0
 d0 : 0≤d
 par : ∀v,v<N→0≤st.far.getD v 0→v≠s→∃k:Nat,st.last.getD v 0=(k:Int)∧k<A.length∧0<aL A k∧aT A k=v∧st.done.getD (aF A k) true=true∧st.far.getD v 0=nxt A lv (st.far.getD (aF A k) 0) k∧dp v=dp (aF A k)+1
 dps : dp s=0
 dpu : ∀v,v<N→0≤st.far.getD v 0→dp v≤st.done.count true
 dpd : ∀v,v<N→st.done.getD v true=true→dp v<st.done.count true
 mag : ∀v,v<N→0≤st.far.getD v 0 → -(1000000*(dp v:Int))≤st.far.getD v 0+lv.getD v 0∧st.far.getD v 0+lv.getD v 0≤1000000*(dp v:Int)
section
variable {A:List Arc} {out:List (List Nat)} {lv:List Int} {N s:Nat}
theorem jD (G:Gr A out lv N s) {st:DS} {d:Int} {E:Nat→Prop} {dp:Nat→Nat} {k:Nat} (I:DI A lv N s st d E dp) (hk:k<A.length) (hu:st.done.getD (aF A k) true=true) (hd:st.far.getD (aF A k) 0=d) :
  ∃ dp',DI A lv N s (rlx A lv d st k) d (fun j=>E j∨j=k) dp'∧(rlx A lv d st k).done=st.done∧(∀v,v<N→st.done.getD v true=true→(rlx A lv d st k).far.getD v 0=st.far.getD v 0)∧(rlx A lv d st k).q.length≤st.q.length+1:=by
 obtain ⟨uN,vN⟩:=G.ar k hk
 by_cases c:0<aL A k∧(st.far.getD (aT A k) 0<0∨nxt A lv d k<st.far.getD (aT A k) 0)
 case neg =>
  have e:rlx A lv d st k=st:=by unfold rlx;rw[if_neg c]
  rw [e]
  refine ⟨dp,⟨I.lf,I.ll,I.ld,I.hp,I.rch,I.qin,I.cur,I.dn,I.low,fun j hj h1 h2 h3=>?_,I.src,I.d0,I.par,I.dps,I.dpu,I.dpd,I.mag⟩,rfl,fun _ _ _=>rfl,by omega⟩
  rcases h3 with h3 | h3
  ·exact I.clo j hj h1 h2 h3
  ·subst h3
   have : ¬(st.far.getD (aT A j) 0<0∨nxt A lv d j<st.far.getD (aT A j) 0):=fun g=>c ⟨h2,g⟩
   rw [hd];omega
 obtain ⟨cl,cf⟩:=c
 have e:rlx A lv d st k=⟨st.far.set (aT A k) (nxt A lv d k),st.last.set (aT A k) k,st.done,FO st.q (nxt A lv d k,aT A k)⟩:=by unfold rlx;rw[if_pos ⟨cl,cf⟩]
 have hrc:=G.rc k hk cl (I.rch _ uN (I.dn _ uN hu).1)
 have hnx:d≤nxt A lv d k:=by unfold nxt;omega
 have hd0:=I.d0
 have hvd:¬st.done.getD (aT A k) true=true:=fun g=>by
  have := I.dn _ vN g
  omega
 have hvd':st.done.getD (aT A k) true=false:=by simpa using hvd
 have hvs:aT A k≠s:=fun g=>by
  have := I.src
  rw [←g]at this
  omega
 have huv:aF A k≠aT A k:=fun g=>hvd (by rw[←g];exact hu)
 have hfa:∀w,(st.far.set (aT A k) (nxt A lv d k)).getD w 0=if w=aT A k then nxt A lv d k else st.far.getD w 0:=fun w=>CW (by rw[I.lf];exact vN)
 have hla:∀w,(st.last.set (aT A k) (k:Int)).getD w 0=if w=aT A k then (k:Int)else st.last.getD w 0:=fun w=>CW (by rw[I.ll];exact vN)
 have hne:∀w,st.done.getD w true=true→¬w=aT A k:=fun w hw g=>hvd (by rw[←g];exact hw)
 have hle:∀w,0≤st.far.getD w 0→(if w=aT A k then nxt A lv d k else st.far.getD w 0)≤st.far.getD w 0:=fun w hw=>by
  split
  ·rename_i g;subst g;omega
  ·exact Int.le_refl _
 rw [e]
 refine ⟨fun w=>if w=aT A k then dp (aF A k)+1 else dp w,⟨by simpa using I.lf,by simpa using I.ll,I.ld,ZZ I.hp,fun v hv h=>?_,fun x hx=>?_,fun v hv h1 h2=>?_,fun v hv h=>?_,fun x hx=>?_,fun j hj h1 h2 h3=>?_,?_,hd0,fun v hv h1 h2=>?_,?_,fun v hv h=>?_,fun v hv h=>?_,fun v hv h=>?_⟩,rfl,fun v hv h=>?_,?_⟩ <;> (try dsimp only at *)
 ·by_cases g:v=aT A k
  ·subst g;exact .arc k hk cl (I.rch _ uN (I.dn _ uN hu).1)
  ·rw [hfa,if_neg g]at h;exact I.rch v hv h
 ·rw [hfa]
  rcases List.mem_cons.1 (push_perm.mem_iff.1 hx)with g | g
  ·subst g;dsimp only;rw[if_pos rfl];exact⟨vN,by omega,Int.le_refl _⟩
  ·obtain ⟨g1,g2,g3⟩:=I.qin x g
   refine ⟨g1,?_,Int.le_trans (hle _ g2) g3⟩
   split
   ·omega
   ·exact g2
 ·rw [hfa]
  by_cases g:v=aT A k
  ·subst g;rw[if_pos rfl];exact push_perm.mem_iff.2 (by simp)
  ·rw [hfa,if_neg g]at h1
   rw [if_neg g]
   exact push_perm.mem_iff.2 (List.mem_cons_of_mem _ (I.cur v hv h1 h2))
 ·rw [hfa,if_neg (hne v h)];exact I.dn v hv h
 ·rcases List.mem_cons.1 (push_perm.mem_iff.1 hx)with g | g
  ·subst g;exact hnx
  ·exact I.low x g
 ·rw [hfa,hfa,if_neg (hne _ h1)]
  rcases h3 with h3 | h3
  ·obtain ⟨g1,g2⟩:=I.clo j hj h1 h2 h3
   refine ⟨?_,Int.le_trans (hle _ g1) g2⟩
   split
   ·omega
   ·exact g1
  ·subst h3;rw[if_pos rfl,hd];exact⟨by omega,Int.le_refl _⟩
 ·rw [hfa,if_neg (fun g=>hvs g.symm)];exact I.src
 ·by_cases g:v=aT A k
  ·subst g
   refine ⟨k,by rw[hla,if_pos rfl],hk,cl,rfl,hu,?_,?_⟩
   ·rw [hfa,hfa,if_pos rfl,if_neg huv,hd]
   ·rw [if_pos rfl,if_neg huv]
  ·rw [hfa,if_neg g]at h1
   obtain ⟨j,g1,g2,g3,g4,g5,g6,g7⟩:=I.par v hv h1 h2
   refine ⟨j,by rw[hla,if_neg g];exact g1,g2,g3,g4,g5,?_,?_⟩
   ·rw [hfa,hfa,if_neg g,if_neg (hne _ g5)];exact g6
   ·rw [if_neg g,if_neg (hne _ g5)];exact g7
 ·rw [if_neg (fun g=>hvs g.symm)];exact I.dps
 ·by_cases g:v=aT A k
  ·rw [if_pos g]
   have := I.dpd _ uN hu
   omega
  ·rw [hfa,if_neg g]at h
   rw [if_neg g];exact I.dpu v hv h
 ·rw [if_neg (hne v h)];exact I.dpd v hv h
 ·by_cases g:v=aT A k
  ·rw [hfa,if_pos g,if_pos g]
   have h1:=I.mag _ uN (I.dn _ uN hu).1
   have h2:=G.pr k hk
   rw [hd]at h1
   subst g
   have e1:nxt A lv d k+lv.getD (aT A k) 0=d+lv.getD (aF A k) 0+aP A k:=by unfold nxt;omega
   rw [e1]
   have e2:(((dp (aF A k)+1:Nat)):Int)=(dp (aF A k):Int)+1:=by omega
   rw [e2];omega
  ·rw [hfa,if_neg g]at h
   rw [hfa,if_neg g,if_neg g];exact I.mag v hv h
 ·rw [hfa,if_neg (hne v h)]
 ·rw [Mp];exact Nat.le_refl _
theorem WA (G:Gr A out lv N s):∀ {l:List Nat} {st:DS} {d:Int} {E:Nat→Prop} {dp:Nat→Nat} {u:Nat},DI A lv N s st d E dp→(∀k∈l,k<A.length∧aF A k=u)→st.done.getD u true=true→u<N→st.far.getD u 0=d →
  ∃ dp',DI A lv N s (l.foldl (rlx A lv d) st) d (fun j=>E j∨j∈l) dp'∧(l.foldl (rlx A lv d) st).done=st.done∧(l.foldl (rlx A lv d) st).q.length≤st.q.length+l.length∧(l.foldl (rlx A lv d) st).far.getD u 0=d
 | [],st,d,E,dp,u,I,_,hu,_,hd=>by
  refine ⟨dp,?_,rfl,by simp,hd⟩
  have : (fun j=>E j∨j∈([]:List Nat))=E:=by funext j;simp
  rw [this];exact I
 | k::l,st,d,E,dp,u,I,h,hu,uN,hd=>by
  obtain ⟨hk,hku⟩:=h k (by simp)
  obtain ⟨dp1,I1,e1,e2,e3⟩:=jD G I hk (by rw[hku];exact hu) (by rw[hku];exact hd)
  obtain ⟨dp2,I2,f1,f2,f3⟩:=WA G (l:=l) I1 (fun j hj=>h j (by simp[hj])) (by rw[e1];exact hu) uN (by rw[e2 u uN hu];exact hd)
  refine ⟨dp2,?_,f1.trans e1,?_,f3⟩
  ·have : (fun j=>E j∨j∈k::l)=fun j=>(E j∨j=k)∨j∈l:=by
    funext j;simp only[List.mem_cons,or_assoc]
   rw [this];exact I2
  ·rw [List.foldl_cons,List.length_cons];omega
def Qb (out:List (List Nat)) (done:List Bool):Nat→Nat
 | 0=>0
 | v+1=>Qb out done v+if done.getD v true=true then 0 else (out.getD v []).length
def Eu (out:List (List Nat)) (st:DS):Nat:=st.q.length+Qb out st.done out.length
theorem JI {out:List (List Nat)} {done:List Bool} {u:Nat} (hu:u<done.length) (h:done.getD u true=false):∀n,Qb out (done.set u true) n+(if u<n then (out.getD u []).length else 0)=Qb out done n
 | 0=>by simp[Qb]
 | n+1=>by
  have ih:=JI (out:=out) hu h n
  simp only[Qb]
  rw [EU hu]
  by_cases e:n=u
  ·subst e
   rw [if_neg (show ¬n<n by omega)]at ih
   rw [if_pos (show n<n+1 by omega),if_pos rfl,h]
   simp; omega
  ·rw [if_neg e]
   by_cases c:u<n
   ·rw [if_pos c]at ih
    rw [if_pos (show u<n+1 by omega)];omega
   ·rw [if_neg c]at ih
    rw [if_neg (show ¬u<n+1 by omega)];omega
theorem Qc {st:DS} {d:Int} {E:Nat→Prop} {dp:Nat→Nat} (I:DI A lv N s st d E dp) (hq:0<st.q.length) :
  (A9 st.q).2<N∧(st.done.getD (A9 st.q).2 true=false→(A9 st.q).1=st.far.getD (A9 st.q).2 0)∧(A9 st.q)∈st.q∧(∀x,x∈Et st.q→x∈st.q)∧∀x∈st.q,x=A9 st.q∨x∈Et st.q:=by
 obtain ⟨h1,h2,h3,h4,h5⟩:=Hq hq I.hp
 have hm:A9 st.q∈st.q:=h2.mem_iff.1 (by simp)
 obtain ⟨g1,g2,g3⟩:=I.qin _ hm
 refine ⟨g1,fun h=>?_,hm,fun x hx=>h2.mem_iff.1 (List.mem_cons_of_mem _ hx),fun x hx=>List.mem_cons.1 (h2.mem_iff.2 hx)⟩
 have := h5 _ (I.cur _ g1 g2 h)
 dsimp only at this
 omega
theorem uX {st:DS} {d:Int} {dp:Nat→Nat} (I:DI A lv N s st d (fun _=>True) dp) (hq:0<st.q.length) (h:st.done.getD (A9 st.q).2 true=true):DI A lv N s ⟨st.far,st.last,st.done,Et st.q⟩ d (fun _=>True) dp:=by
 obtain ⟨h1,h2,h3,h4,h5⟩:=Hq hq I.hp
 obtain ⟨p1,p2,p3,p4,p5⟩:=Qc I hq
 refine ⟨I.lf,I.ll,I.ld,h3,I.rch,fun x hx=>I.qin x (p4 x hx),fun v hv g1 g2=>?_,I.dn,fun x hx=>I.low x (p4 x hx),I.clo,I.src,I.d0,I.par,I.dps,I.dpu,I.dpd,I.mag⟩
 rcases p5 _ (I.cur v hv g1 g2)with g | g
 ·exfalso
  dsimp only at g2
  rw [←g]at h
  dsimp only at h
  rw [h]at g2;cases g2
 ·exact g
theorem WB {st:DS} {d:Int} {dp:Nat→Nat} (I:DI A lv N s st d (fun _=>True) dp) (hq:0<st.q.length) (h:st.done.getD (A9 st.q).2 true=false):DI A lv N s (Iz st) (A9 st.q).1 (fun k=>¬aF A k=(A9 st.q).2) dp:=by
 obtain ⟨h1,h2,h3,h4,h5⟩:=Hq hq I.hp
 obtain ⟨p1,p2,p3,p4,p5⟩:=Qc I hq
 have hx1:=p2 h
 have hlow:=I.low _ p3
 have hd0:=I.d0
 have hdn:∀w,(st.done.set (A9 st.q).2 true).getD w true=if w=(A9 st.q).2 then true else st.done.getD w true:=fun w=>EU (by rw[I.ld];exact p1)
 have hcnt:(st.done.set (A9 st.q).2 true).count true=st.done.count true+1:=by
  have hl:(A9 st.q).2<st.done.length:=by rw[I.ld];exact p1
  have e:st.done[(A9 st.q).2]=false:=by
   have := h
   rw [List.getD_eq_getElem?_getD,List.getElem?_eq_getElem hl]at this
   exact this
  rw [List.count_set hl,e];simp
 unfold Iz
 refine ⟨I.lf,I.ll,by simpa using I.ld,h3,I.rch,fun x hx=>I.qin x (p4 x hx),fun v hv g1 g2=>?_,fun v hv g=>?_,fun x hx=>h5 x (p4 x hx),fun k hk g1 g2 g3=>?_,I.src,by omega,fun v hv g1 g2=>?_,I.dps,fun v hv g=>?_,fun v hv g=>?_,I.mag⟩ <;> dsimp only at *
 ·rw [hdn]at g2
  by_cases e:v=(A9 st.q).2
  ·rw [if_pos e]at g2;cases g2
  ·rw [if_neg e]at g2
   rcases p5 _ (I.cur v hv g1 g2)with g | g
   ·exact absurd (congrArg Prod.snd g) e
   ·exact g
 ·rw [hdn]at g
  by_cases e:v=(A9 st.q).2
  ·subst e
   obtain ⟨q1,q2,q3⟩:=I.qin _ p3
   omega
  ·rw [if_neg e]at g
   have := I.dn v hv g
   omega
 ·rw [hdn,if_neg g3]at g1
  exact I.clo k hk g1 g2 trivial
 ·obtain ⟨k,a1,a2,a3,a4,a5,a6,a7⟩:=I.par v hv g1 g2
  refine ⟨k,a1,a2,a3,a4,?_,a6,a7⟩
  rw [hdn];split
  ·rfl
  ·exact a5
 ·rw [hcnt]
  have := I.dpu v hv g
  omega
 ·rw [hcnt]
  rw [hdn]at g
  by_cases e:v=(A9 st.q).2
  ·obtain ⟨q1,q2,q3⟩:=I.qin _ p3
   have := I.dpu _ q1 q2
   rw [e];omega
  ·rw [if_neg e]at g
   have := I.dpd v hv g
   omega
theorem Qd (G:Gr A out lv N s) {st:DS} {d:Int} {dp:Nat→Nat} (I:DI A lv N s st d (fun _=>True) dp) (hq:0<st.q.length):(∃d' dp',DI A lv N s (Ei A out lv st) d' (fun _=>True) dp')∧Eu out (Ei A out lv st)<Eu out st:=by
 obtain ⟨p1,p2,p3,p4,p5⟩:=Qc I hq
 have hpl:=(Hq hq I.hp).2.2.2.1
 by_cases h:st.done.getD (A9 st.q).2 true=true
 ·have e:Ei A out lv st=⟨st.far,st.last,st.done,Et st.q⟩:=by unfold Ei;rw[if_pos h]
  rw [e]
  refine ⟨⟨d,dp,uX I hq h⟩,?_⟩
  unfold Eu;dsimp only;omega
 ·have h':st.done.getD (A9 st.q).2 true=false:=by simpa using h
  have e:Ei A out lv st=(out.getD (A9 st.q).2 []).foldl (rlx A lv (A9 st.q).1) (Iz st):=by unfold Ei;rw[if_neg h]
  have hu:(Iz st).done.getD (A9 st.q).2 true=true:=by
   unfold Iz;dsimp only
   rw [EU (by rw[I.ld];exact p1),if_pos rfl]
  obtain ⟨dp',I',e1,e2,_⟩:=WA G (l:=out.getD (A9 st.q).2 []) (WB I hq h') (G.out1 _ p1) hu p1 (p2 h').symm
  rw [e]
  refine ⟨⟨(A9 st.q).1,dp',?_⟩,?_⟩
  ·have I2:=I'
   refine ⟨I2.lf,I2.ll,I2.ld,I2.hp,I2.rch,I2.qin,I2.cur,I2.dn,I2.low,fun k hk g1 g2 _=>I2.clo k hk g1 g2 ?_,I2.src,I2.d0,I2.par,I2.dps,I2.dpu,I2.dpd,I2.mag⟩
   by_cases c:aF A k=(A9 st.q).2
   ·exact .inr (by rw[←c];exact G.out2 k hk)
   ·exact .inl c
  ·unfold Eu
   rw [e1]
   have := JI (out:=out) (u:=(A9 st.q).2) (by rw[I.ld];exact p1) h' out.length
   rw [if_pos (by rw[G.lo];exact p1)]at this
   unfold Iz at *
   dsimp only at *
   omega
theorem jE (G:Gr A out lv N s):∀ {f:Nat} {st:DS} {d:Int} {dp:Nat→Nat},Eu out st≤f→DI A lv N s st d (fun _=>True) dp→(Ik A out lv f st).q.length=0∧∃d' dp',DI A lv N s (Ik A out lv f st) d' (fun _=>True) dp'
 | 0,st,d,dp,hf,I=>by
  unfold Eu at hf
  exact ⟨by simp only[Ik];omega,d,dp,I⟩
 | f+1,st,d,dp,hf,I=>by
  simp only[Ik]
  by_cases c:st.q.length=0
  ·rw [if_pos c];exact⟨c,d,dp,I⟩
  ·rw [if_neg c]
   obtain ⟨⟨d',dp',I'⟩,hm⟩:=Qd G I (by omega)
   exact jE G (by omega) I'
theorem SF (G:Gr A out lv N s):∀ {f g:Nat} {st:DS} {d:Int} {dp:Nat→Nat},Eu out st≤f→Eu out st≤g→DI A lv N s st d (fun _=>True) dp→Ik A out lv f st=Ik A out lv g st
 | 0,0,_,_,_,_,_,_=>rfl
 | 0,g+1,st,d,dp,hf,hg,I=>by
  unfold Eu at hf
  simp only[Ik]
  rw [if_pos (by omega)]
 | f+1,0,st,d,dp,hf,hg,I=>by
  unfold Eu at hg
  simp only[Ik]
  rw [if_pos (by omega)]
 | f+1,g+1,st,d,dp,hf,hg,I=>by
  simp only[Ik]
  by_cases c:st.q.length=0
  ·rw [if_pos c,if_pos c]
  ·rw [if_neg c,if_neg c]
   obtain ⟨⟨d',dp',I'⟩,hm⟩:=Qd G I (by omega)
   exact SF G (by omega) (by omega) I'
end
end Sim
