/- Lemmas. -/
import Derived.Test.YtdfjimjbdakofaaGreatQF6
set_option maxRecDepth 10000
set_option maxHeartbeats 2000000
set_option linter.all false
open Go.IntKind renaming i64->nm
open Go.Proofs.Tryz renaming prog->pk
open Int renaming le_refl->pj,toNat_natCast->pe
open List renaming replicate->ba,map_cons->nj,mem_cons->li,length_cons->pg,mem_append->kq,map_append->qp,nodup_cons->l5,append_nil->qq,length_map->ow,cons.injEq->ix,ofFn->qv,length_ofFn->qw,getElem?_cons_succ->qx,getElem?_append_left->cq,getElem?_map->bw,append_inj->qy,length_set->ra,length_append->cu,length_nil->rh,getD_eq_getElem?_getD->oa,take_append_drop->ri,set_append->rn,filter_append->ro
open Nat renaming le_refl->cg
open Option renaming some.injEq->bp
open Prod renaming ext->qu
open Sim.IObj renaming arr.injEq->q8
open Sim.Left renaming refl->q9
open Sim.PV renaming agg.injEq->qr,int.injEq->qt,int->mt,ref.injEq->qz,isInt->kj,iface.injEq->rg
open Sim.Store renaming set->kd
noncomputable section
namespace Sim
structure BS where
 cost : List Int
 known : List Bool
 last : List Int
def Pe (A:List Arc) (st:BS) (k:Nat):BS :=
 if 0<aL A k/\st.known.getD (aF A k) false=true/\(st.known.getD (aT A k) false=false\/st.cost.getD (aF A k) 0+aP A k<st.cost.getD (aT A k) 0)then⟨st.cost.set (aT A k) (st.cost.getD (aF A k) 0+aP A k),st.known.set (aT A k) true,st.last.set (aT A k) k⟩else st
def SW (A:List Arc) (st:BS) (n:Nat):BS:=(List.range n).foldl (Pe A) st
def Aoa (A:List Arc) (st:BS):BS:=SW A st A.length
def QK (N s:Nat):BS:=⟨ba N 0,(ba N false).set s true,ba N 0⟩
def VD (A:List Arc) (N s:Nat):Nat->BS
 | 0=>QK N s
 | n+1=>Aoa A (VD A N s n)
def SX (A:List Arc) (N s:Nat):BS:=VD A N s N
inductive PL (A:List Arc) (last:List Int) (s:Nat):Nat->List Nat->Prop
 | nil:PL A last s s []
 | cons (v:Nat) (P:List Nat) (hv:v≠s) (hT:aT A (last.getD v 0).toNat=v) (h:PL A last s (aF A (last.getD v 0).toNat) P):PL A last s v ((last.getD v 0).toNat::P)
section
variable {A:List Arc}
theorem Ain {last:List Int} {s v:Nat} {P Q:List Nat} (h:PL A last s v P):PL A last s v Q->P=Q:=by
 induction h generalizing Q with
 | nil =>
  intro g
  cases g with
  | nil=>rfl
  | cons _ _ hv _ _=>exact absurd rfl hv
 | cons v P hv hT h ih =>
  intro g
  cases g with
  | nil=>exact absurd rfl hv
  | cons _ _ _ _ g=>rw[ih g]
def wtP (A:List Arc) (P:List Nat):Int:=(P.map (aP A)).sum
theorem Jt {k:Nat} {P:List Nat}:wtP A (k::P)=aP A k+wtP A P:=by simp[wtP]
theorem Aio {P Q:List Nat}:wtP A (P++Q)=wtP A P+wtP A Q:=by simp[wtP]
end
def Opn (A:List Arc) (P:List Nat):Prop:=∀k∈P,k<A.length/\0<aL A k
structure Gb (A:List Arc) (N s:Nat) (φ:Nat->Int):Prop where
 ar : ∀k,k<A.length->aF A k<N/\aT A k<N
 sN : s<N
 pr : ∀k,k<A.length -> -1000000<=aP A k/\aP A k<=1000000
 pot : ∀k,k<A.length->0<aL A k->0<=aP A k+φ (aF A k)-φ (aT A k)
structure BI (A:List Arc) (N s:Nat) (φ:Nat->Int) (st:BS) (c:Nat):Prop where
 lc : st.cost.length=N
 lk : st.known.length=N
 ll : st.last.length=N
 ks : st.known.getD s false=true
 cs : st.cost.getD s 0=0
 par : ∀v,v<N->st.known.getD v false=true->v≠s->∃k:Nat,st.last.getD v 0=(k:Int)/\k<A.length/\0<aL A k/\aT A k=v/\st.known.getD (aF A k) false=true/\st.cost.getD (aF A k) 0+aP A k<=st.cost.getD v 0
 pl : ∀v,v<N->st.known.getD v false=true->∃P,PL A st.last s v P
 wk : ∀v,v<N->st.known.getD v false=true->∃P,IsP A s v P/\Opn A P/\wtP A P=st.cost.getD v 0
 mag : ∀v,v<N->st.known.getD v false=true -> -(1000000*(c:Int))<=st.cost.getD v 0/\st.cost.getD v 0<=1000000*(c:Int)
section
variable {A:List Arc} {N s:Nat} {φ:Nat->Int}
theorem sJ (G:Gb A N s φ) {st:BS} {c:Nat} (I:BI A N s φ st c) {v:Nat} {P:List Nat} (h:PL A st.last s v P):v<N->st.known.getD v false=true->(∀x∈P.map (aT A),x<N/\st.known.getD x false=true/\st.cost.getD x 0-φ x<=st.cost.getD v 0-φ v)/\st.cost.getD s 0-φ s<=st.cost.getD v 0-φ v/\IsP A s v P/\Opn A P:=by
 induction h with
 | nil=>intro _ _;exact⟨by simp,pj _,.nil,by intro k hk;simp at hk⟩
 | cons v P hv hT h ih =>
  intro vN hk
  obtain ⟨k,a1,a2,a3,a4,a5,a6⟩:=I.par v vN hk hv
  rw [a1,pe]at h ih
  obtain ⟨i1,i2,i3,i4⟩:=ih (G.ar k a2).1 a5
  have hp:=G.pot k a2 a3
  rw [a4]at hp
  rw [a1,pe]
  refine ⟨λx hx=>?_,by omega,?_,λj hj=>?_⟩
  .rw [nj]at hx
   rcases li.1 hx with g | g
   .rw [g,a4];exact⟨vN,hk,pj _⟩
   .obtain ⟨j1,j2,j3⟩:=i1 x g
    exact ⟨j1,j2,by omega⟩
  .rw [<-a4];exact .cons k P i3
  .rcases li.1 hj with g | g
   .subst g;exact⟨a2,a3⟩
   .exact i4 j g
theorem Aip {last:List Int} {v:Nat} {x:Int} (hl:v<last.length) {u:Nat} {P:List Nat} (h:PL A last s u P):v ∉ P.map (aT A)->PL A (last.set v x) s u P:=by
 induction h with
 | nil=>intro _;exact .nil
 | cons u P hu hT h ih =>
  intro hP
  rw [nj,li,hT]at hP
  have e1:(last.set v x).getD u 0=last.getD u 0:=by rw[Di hl,if_neg (λg=>hP (.inl g.symm))]
  have := PL.cons (A:=A) (last:=last.set v x) (s:=s) u P hu (by rw[e1];exact hT) (by rw[e1];exact ih λg=>hP (.inr g))
  rwa [e1]at this
theorem Ab0 (G:Gb A N s φ) {st:BS} {c k:Nat} (I:BI A N s φ st c) (hk:k<A.length):BI A N s φ (Pe A st k) (c+1)/\(∀v,v<N->st.known.getD v false=true->(Pe A st k).known.getD v false=true/\(Pe A st k).cost.getD v 0<=st.cost.getD v 0) /\
  (0 < aL A k->st.known.getD (aF A k) false=true->(Pe A st k).known.getD (aT A k) false=true/\(Pe A st k).cost.getD (aT A k) 0<=st.cost.getD (aF A k) 0+aP A k):=by
 obtain ⟨uN,vN⟩:=G.ar k hk
 have hc1:((c+1:Nat):Int)=(c:Int)+1:=by omega
 by_cases h:0<aL A k/\st.known.getD (aF A k) false=true/\(st.known.getD (aT A k) false=false\/st.cost.getD (aF A k) 0+aP A k<st.cost.getD (aT A k) 0)
 case neg =>
  have e:Pe A st k=st:=by unfold Pe;rw[if_neg h]
  rw [e]
  refine ⟨⟨I.lc,I.lk,I.ll,I.ks,I.cs,I.par,I.pl,I.wk,λv hv g=>?_⟩,λv hv g=>⟨g,pj _⟩,λh1 h2=>?_⟩
  .have := I.mag v hv g
   rw [hc1];omega
  .have h3:¬(st.known.getD (aT A k) false=false\/st.cost.getD (aF A k) 0+aP A k<st.cost.getD (aT A k) 0):=λg=>h ⟨h1,h2,g⟩
   cases hb:st.known.getD (aT A k) false with
   | false=>exact absurd (.inl hb) h3
   | true=>exact⟨rfl,by have:¬st.cost.getD (aF A k) 0+aP A k<st.cost.getD (aT A k) 0:=λg=>h3 (.inr g);omega⟩
 obtain ⟨h1,h2,h3⟩:=h
 have e:Pe A st k=⟨st.cost.set (aT A k) (st.cost.getD (aF A k) 0+aP A k),st.known.set (aT A k) true,st.last.set (aT A k) k⟩:=by unfold Pe;rw[if_pos ⟨h1,h2,h3⟩]
 have hp:=G.pot k hk h1
 -- v is not on the path of u
 obtain ⟨Pu,hPu⟩:=I.pl _ uN h2
 obtain ⟨k1,k2,k3,k4⟩:=sJ G I hPu uN h2
 have hnew:st.known.getD (aT A k) false=true->st.cost.getD (aF A k) 0-φ (aF A k)<st.cost.getD (aT A k) 0-φ (aT A k):=λg=>by
  rcases h3 with h3 | h3
  .rw [g]at h3;cases h3
  .omega
 have hvP:aT A k ∉ Pu.map (aT A):=λg=>by
  obtain ⟨_,j2,j3⟩:=k1 _ g
  have := hnew j2
  omega
 have hvs:aT A k≠s:=λg=>by
  have := hnew (by rw[g];exact I.ks)
  rw [g]at this
  omega
 have huv:aF A k≠aT A k:=λg=>by
  have := hnew (by rw[<-g];exact h2)
  rw [g]at this
  omega
 have hco:∀w,(st.cost.set (aT A k) (st.cost.getD (aF A k) 0+aP A k)).getD w 0=if w=aT A k then st.cost.getD (aF A k) 0+aP A k else st.cost.getD w 0:=λw=>Di (by rw[I.lc];exact vN)
 have hla:∀w,(st.last.set (aT A k) (k:Int)).getD w 0=if w=aT A k then (k:Int)else st.last.getD w 0:=λw=>Di (by rw[I.ll];exact vN)
 have hkn:∀w,(st.known.set (aT A k) true).getD w false=if w=aT A k then true else st.known.getD w false:=λw=>FM (by rw[I.lk];exact vN)
 have hkk:∀w,st.known.getD w false=true->(if w=aT A k then true else st.known.getD w false)=true:=λw g=>by split;rfl;exact g
 have hle:∀w,st.known.getD w false=true->(if w=aT A k then st.cost.getD (aF A k) 0+aP A k else st.cost.getD w 0)<=st.cost.getD w 0:=λw g=>by
  split
  .rename_i e;subst e
   rcases h3 with h3 | h3
   .rw [g]at h3;cases h3
   .omega
  .exact pj _
 have hPLu:PL A (st.last.set (aT A k) (k:Int)) s (aF A k) Pu:=Aip (by rw[I.ll];exact vN) hPu hvP
 have hPLv:PL A (st.last.set (aT A k) (k:Int)) s (aT A k) (k::Pu):=by
  have e1:(st.last.set (aT A k) (k:Int)).getD (aT A k) 0=(k:Int):=by rw[hla,if_pos rfl]
  have := PL.cons (A:=A) (last:=st.last.set (aT A k) (k:Int)) (s:=s) (aT A k) Pu hvs (by rw[e1,pe]) (by rw[e1,pe];exact hPLu)
  rwa [e1,pe]at this
 have hPLx:∀ {x:Nat} {P:List Nat},PL A st.last s x P->∃Q,PL A (st.last.set (aT A k) (k:Int)) s x Q:=λ{x P} g=>by
  induction g with
  | nil=>exact⟨[],.nil⟩
  | cons x P hx hT g ih =>
   by_cases e:x=aT A k
   .exact ⟨_,by rw[e];exact hPLv⟩
   .obtain ⟨Q,hQ⟩:=ih
    have e1:(st.last.set (aT A k) (k:Int)).getD x 0=st.last.getD x 0:=by rw[hla,if_neg e]
    refine ⟨_,PL.cons (A:=A) (last:=st.last.set (aT A k) (k:Int)) (s:=s) x Q hx (by rw[e1];exact hT) (by rw[e1];exact hQ)⟩
 rw [e]
 refine ⟨⟨by simpa using I.lc,by simpa using I.lk,by simpa using I.ll,?_,?_,λv hv g1 g2=>?_,λv hv g=>?_,λv hv g=>?_,λv hv g=>?_⟩,λv hv g=>?_,λ_ _=>?_⟩ <;> (try dsimp only at *)
 .rw [hkn];exact hkk s I.ks
 .rw [hco,if_neg (λg=>hvs g.symm)];exact I.cs
 .by_cases e:v=aT A k
  .subst e
   refine ⟨k,by rw[hla,if_pos rfl],hk,h1,rfl,by rw[hkn];exact hkk _ h2,?_⟩
   rw [hco,hco,if_neg huv,if_pos rfl];exact pj _
  .rw [hkn,if_neg e]at g1
   obtain ⟨j,a1,a2,a3,a4,a5,a6⟩:=I.par v hv g1 g2
   refine ⟨j,by rw[hla,if_neg e];exact a1,a2,a3,a4,by rw[hkn];exact hkk _ a5,?_⟩
   rw [hco,hco,if_neg e]
   have := hle _ a5
   omega
 .by_cases e:v=aT A k
  .subst e;exact⟨_,hPLv⟩
  .rw [hkn,if_neg e]at g
   obtain ⟨P,hP⟩:=I.pl v hv g
   exact hPLx hP
 .by_cases e:v=aT A k
  .subst e
   obtain ⟨P,w1,w2,w3⟩:=I.wk _ uN h2
   refine ⟨k::P,.cons k P w1,λj hj=>?_,?_⟩
   .rcases li.1 hj with g | g
    .subst g;exact⟨hk,h1⟩
    .exact w2 j g
   .rw [Jt,w3,hco,if_pos rfl];omega
  .rw [hkn,if_neg e]at g
   obtain ⟨P,w1,w2,w3⟩:=I.wk v hv g
   exact ⟨P,w1,w2,by rw[hco,if_neg e];exact w3⟩
 .rw [hco,hc1]
  by_cases e:v=aT A k
  .rw [if_pos e]
   have := I.mag _ uN h2
   have := G.pr k hk
   omega
  .rw [hkn,if_neg e]at g
   rw [if_neg e]
   have := I.mag v hv g
   omega
 .rw [hkn,hco];exact⟨hkk v g,hle v g⟩
 .rw [hkn,hco,if_pos rfl,if_pos rfl];exact⟨rfl,pj _⟩
theorem iX {st:BS} {n:Nat}:SW A st (n+1)=Pe A (SW A st n) n:=by
 unfold SW;rw[List.range_succ,List.foldl_append];rfl
theorem SY (G:Gb A N s φ) {st:BS} {c:Nat} (I:BI A N s φ st c):∀n,n<=A.length->BI A N s φ (SW A st n) (c+n)/\(∀v,v<N->st.known.getD v false=true->(SW A st n).known.getD v false=true/\(SW A st n).cost.getD v 0<=st.cost.getD v 0) /\
  ∀ k,k<n->0<aL A k->st.known.getD (aF A k) false=true->(SW A st n).known.getD (aT A k) false=true/\(SW A st n).cost.getD (aT A k) 0<=st.cost.getD (aF A k) 0+aP A k
 | 0,_=>⟨I,λv hv g=>⟨g,pj _⟩,λk hk=>absurd hk (by omega)⟩
 | n+1,h=>by
  obtain ⟨h1,h2,h3⟩:=SY G I n (by omega)
  obtain ⟨g1,g2,g3⟩:=Ab0 G h1 (k:=n) (by omega)
  rw [iX]
  refine ⟨g1,λv hv g=>?_,λk hk a1 a2=>?_⟩
  .obtain ⟨b1,b2⟩:=h2 v hv g
   obtain ⟨b3,b4⟩:=g2 v hv b1
   exact ⟨b3,by omega⟩
  .obtain ⟨uN,vN⟩:=G.ar k (by omega)
   by_cases e:k=n
   .subst e
    obtain ⟨b1,b2⟩:=h2 _ uN a2
    obtain ⟨b3,b4⟩:=g3 a1 b1
    exact ⟨b3,by omega⟩
   .obtain ⟨b1,b2⟩:=h3 k (by omega) a1 a2
    obtain ⟨b3,b4⟩:=g2 _ vN b1
    exact ⟨b3,by omega⟩
theorem Ab1 (G:Gb A N s φ):BI A N s φ (QK N s) 0:=by
 have sN:=G.sN
 have hk:∀v,v<N->(QK N s).known.getD v false=if v=s then true else false:=λv hv=>by
  unfold QK;dsimp only
  rw [FM (by simpa using sN)]
  simp [hv]
 have hc:∀v,v<N->(QK N s).cost.getD v 0=0:=λv hv=>by unfold QK;simp[hv]
 have hv:∀v,v<N->(QK N s).known.getD v false=true->v=s:=λv hv g=>by
  rw [hk v hv]at g
  by_cases e:v=s
  .exact e
  .rw [if_neg e]at g;cases g
 refine ⟨by simp[QK],by simp[QK],by simp[QK],by rw[hk s sN,if_pos rfl],hc s sN,λv hv' g1 g2=>absurd (hv v hv' g1) g2,λv hv' g=>?_,λv hv' g=>?_,λv hv' g=>?_⟩
 .rw [hv v hv' g];exact⟨[],.nil⟩
 .rw [hc v hv',hv v hv' g];exact⟨[],.nil,by intro k hk;simp at hk,rfl⟩
 .rw [hc v hv'];simp
theorem NS (G:Gb A N s φ):∀n,BI A N s φ (VD A N s n) (n*A.length)
 | 0=>by rw[Nat.zero_mul];exact Ab1 G
 | n+1=>by
  have :=(SY G (NS G n) A.length (cg _)).1
  rw [Nat.succ_mul];exact this
theorem Amy (G:Gb A N s φ) {v:Nat} {P:List Nat} (h:IsP A s v P):∀n,P.length<=n->Opn A P->v<N->(VD A N s n).known.getD v false=true/\(VD A N s n).cost.getD v 0<=wtP A P:=by
 induction h with
 | nil =>
  intro n _ _ _
  have := NS G n
  rw [this.cs]
  exact ⟨this.ks,by simp[wtP]⟩
 | cons k P h ih =>
  intro n hn ho vN
  cases n with
  | zero=>simp at hn
  | succ n =>
   rw [pg]at hn
   obtain ⟨hk,hl⟩:=ho k (by simp)
   obtain ⟨i1,i2⟩:=ih n (by omega) (λj hj=>ho j (by simp[hj])) (G.ar k hk).1
   obtain ⟨g1,g2⟩:=(SY G (NS G n) A.length (cg _)).2.2 k hk hl i1
   refine ⟨g1,?_⟩
   rw [Jt]
   have : (VD A N s (n+1)).cost.getD (aT A k) 0<=(VD A N s n).cost.getD (aF A k) 0+aP A k:=g2
   omega
theorem iZ {v x:Nat} {P:List Nat} (h:IsP A s v P):x∈P.map (aT A)->∃X Y,P=X++Y/\IsP A s x Y:=by
 induction h with
 | nil=>intro hx;simp at hx
 | cons k P h ih =>
  intro hx
  rw [nj]at hx
  by_cases e:x=aT A k
  .exact ⟨[],k::P,rfl,by rw[e];exact .cons k P h⟩
  .rcases li.1 hx with g | g
   .exact absurd g e
   .obtain ⟨X,Y,h1,h2⟩:=ih g
    exact ⟨k::X,Y,by rw[h1];rfl,h2⟩
theorem sK {v x:Nat} {Y:List Nat} (h1:IsP A s v Y) (h2:IsP A s x Y):v=x:=by
 cases h1 with
 | nil=>cases h2;rfl
 | cons k P _=>cases h2;rfl
theorem Yt (G:Gb A N s φ):∀ {X:List Nat} {v x:Nat} {Y:List Nat},IsP A s v (X++Y)->IsP A s x Y->Opn A X->φ v-φ x<=wtP A X
 | [],v,x,Y,h1,h2,_=>by
  rw [sK h1 h2];simp[wtP]
 | k::X,v,x,Y,h1,h2,ho=>by
  cases h1 with
  | cons _ _ h1 =>
   obtain ⟨hk,hl⟩:=ho k (by simp)
   have := Yt G h1 h2 λj hj=>ho j (by simp[hj])
   have hp:=G.pot k hk hl
   rw [Jt];omega
theorem Ab2 (G:Gb A N s φ) {v:Nat} {P:List Nat} (h:IsP A s v P):Opn A P->∃Q,IsP A s v Q/\Opn A Q/\(s::Q.map (aT A)).Nodup/\wtP A Q<=wtP A P:=by
 induction h with
 | nil=>intro _;exact⟨[],.nil,by intro k hk;simp at hk,by simp,pj _⟩
 | cons k P h ih =>
  intro ho
  obtain ⟨hk,hl⟩:=ho k (by simp)
  obtain ⟨Q,q1,q2,q3,q4⟩:=ih λj hj=>ho j (by simp[hj])
  have hp:=G.pot k hk hl
  rw [Jt]
  by_cases e:aT A k∈Q.map (aT A)
  .obtain ⟨X,Y,e1,e2⟩:=iZ q1 e
   subst e1
   have h1:=Yt G q1 e2 λj hj=>q2 j (kq.2 (.inl hj))
   rw [Aio]at q4
   refine ⟨Y,e2,λj hj=>q2 j (kq.2 (.inr hj)),?_,by omega⟩
   rw [qp]at q3
   rw [l5]at q3 ⊢
   exact ⟨λg=>q3.1 (kq.2 (.inr g)),(List.nodup_append.1 q3.2).2.1⟩
  .by_cases es:aT A k=s
   .have h1:=Yt G (X:=Q) (Y := []) (x:=s) (by rw[qq];exact q1) .nil q2
    refine ⟨[],by rw[es];exact .nil,by intro j hj;simp at hj,by simp,?_⟩
    rw [es]at hp
    have : wtP A []=0:=rfl
    omega
   .refine ⟨k::Q,.cons k Q q1,λj hj=>?_,?_,by rw[Jt];omega⟩
    .rcases li.1 hj with g | g
     .subst g;exact⟨hk,hl⟩
     .exact q2 j g
    .rw [nj]
     rw [l5]at q3 ⊢
     rw [l5]
     refine ⟨λg=>?_,e,q3.2⟩
     rcases li.1 g with g | g
     .exact es g.symm
     .exact q3.1 g
theorem Dm:∀(L:Nat) (l:List Nat),l.Nodup->(∀x∈l,x<L)->l.length<=L
 | 0,l,_,h=>by
  cases l with
  | nil=>exact cg _
  | cons a l=>exact absurd (h a (by simp)) (by omega)
 | L+1,l,hn,h=>by
  by_cases hm:L∈l
  .have h1:=Dm L (l.erase L) (hn.erase L) (λx hx=>by
    have h2:=(hn.mem_erase_iff).1 hx
    have := h x h2.2
    omega)
   rw [List.length_erase_of_mem hm]at h1
   omega
  .have := Dm L l hn (λx hx=>by
    have h1:=h x hx
    have : x≠L:=λe=>hm (e▸hx)
    omega)
   omega
theorem Ab3 (G:Gb A N s φ) {v:Nat} {P:List Nat} (h:IsP A s v P) (ho:Opn A P) (vN:v<N):(SX A N s).known.getD v false=true/\(SX A N s).cost.getD v 0<=wtP A P:=by
 obtain ⟨Q,q1,q2,q3,q4⟩:=Ab2 G h ho
 have hl:(s::Q.map (aT A)).length<=N:=Dm N _ q3 λx hx=>by
  rcases li.1 hx with g | g
  .rw [g];exact G.sN
  .obtain ⟨k,hk,rfl⟩:=List.mem_map.1 g
   exact (G.ar k (q2 k hk).1).2
 rw [pg,ow]at hl
 obtain ⟨h1,h2⟩:=Amy G q1 N (by omega) q2 vN
 exact ⟨h1,Int.le_trans h2 q4⟩
structure FB (A:List Arc) (N s:Nat) (st:BS):Prop where
 known : ∀v,v<N->(st.known.getD v false=true↔Rch A s v)
 clo : ∀k,k<A.length->0<aL A k->Rch A s (aF A k)->st.cost.getD (aT A k) 0<=st.cost.getD (aF A k) 0+aP A k
 cs : st.cost.getD s 0=0
 path : ∀v,v<N->Rch A s v->∃P,PL A st.last s v P/\IsP A s v P/\(P.map (aT A)).Nodup/\∀k∈P,k<A.length/\0<aL A k/\Rch A s (aF A k)/\Rch A s (aT A k)/\aP A k+st.cost.getD (aF A k) 0-st.cost.getD (aT A k) 0=0
theorem Ab4 {v:Nat} (h:Rch A s v):∃P,IsP A s v P/\Opn A P:=by
 induction h with
 | src=>exact⟨[],.nil,by intro k hk;simp at hk⟩
 | arc k hk hl h ih =>
  obtain ⟨P,h1,h2⟩:=ih
  refine ⟨k::P,.cons k P h1,λj hj=>?_⟩
  rcases li.1 hj with g | g
  .subst g;exact⟨hk,hl⟩
  .exact h2 j g
theorem Ab5 {v:Nat} {P:List Nat} (h:IsP A s v P):Opn A P->Rch A s v:=by
 induction h with
 | nil=>intro _;exact .src
 | cons k P h ih =>
  intro ho
  obtain ⟨hk,hl⟩:=ho k (by simp)
  exact .arc k hk hl (ih λj hj=>ho j (by simp[hj]))
theorem Ab6 (G:Gb A N s φ):FB A N s (SX A N s):=by
 have I:=NS G N
 have hst:VD A N s N=SX A N s:=rfl
 rw [hst]at I
 have hle:=λ{v:Nat} {P:List Nat} h ho vN=>Ab3 G (v:=v) (P:=P) h ho vN
 generalize SX A N s=st at *
 have h1:∀v,v<N->(st.known.getD v false=true↔Rch A s v):=λv hv=>by
  constructor
  .intro g
   obtain ⟨P,w1,w2,_⟩:=I.wk v hv g
   exact Ab5 w1 w2
  .intro g
   obtain ⟨P,p1,p2⟩:=Ab4 g
   exact (hle p1 p2 hv).1
 have h2:∀k,k<A.length->0<aL A k->Rch A s (aF A k)->st.cost.getD (aT A k) 0<=st.cost.getD (aF A k) 0+aP A k:=λk hk hl hr=>by
  obtain ⟨uN,vN⟩:=G.ar k hk
  obtain ⟨P,w1,w2,w3⟩:=I.wk _ uN ((h1 _ uN).2 hr)
  have :=(hle (.cons k P w1) (λj hj=>by
   rcases li.1 hj with g | g
   .subst g;exact⟨hk,hl⟩
   .exact w2 j g) vN).2
  rw [Jt,w3]at this
  omega
 refine ⟨h1,h2,I.cs,λv hv hr=>?_⟩
 obtain ⟨P,hP⟩:=I.pl v hv ((h1 v hv).2 hr)
 obtain ⟨_,_,k3,k4⟩:=sJ G I hP hv ((h1 v hv).2 hr)
 have htight:∀ {w:Nat} {Q:List Nat},PL A st.last s w Q->w<N->Rch A s w->∀k∈Q,k<A.length/\0<aL A k/\Rch A s (aF A k)/\Rch A s (aT A k)/\aP A k+st.cost.getD (aF A k) 0-st.cost.getD (aT A k) 0=0:=λ{w Q} hQ=>by
  induction hQ with
  | nil=>intro _ _ k hk;simp at hk
  | cons w Q hw hT hQ ih =>
   intro wN wr k hk
   obtain ⟨j,a1,a2,a3,a4,a5,a6⟩:=I.par w wN ((h1 w wN).2 wr) hw
   rw [a1,pe]at hk ih
   have hjr:=(h1 _ (G.ar j a2).1).1 a5
   rcases li.1 hk with g | g
   .subst g
    have := h2 k a2 a3 hjr
    rw [a4]at this
    exact ⟨a2,a3,hjr,by rw[a4];exact wr,by rw[a4];omega⟩
   .exact ih (G.ar j a2).1 hjr k g
 have hnd:∀ {w:Nat} {Q:List Nat},PL A st.last s w Q->(Q.map (aT A)).Nodup:=λ{w Q} hQ=>by
  induction hQ with
  | nil=>simp
  | cons w Q hw hT hQ ih =>
   rw [nj,l5,hT]
   refine ⟨λg=>?_,ih⟩
   -- w would come again
   have key:∀ {x:Nat} {R:List Nat},PL A st.last s x R->w∈R.map (aT A)->∃Y,PL A st.last s w Y/\Y.length<=R.length:=λ{x R} hR=>by
    induction hR with
    | nil=>intro g;simp at g
    | cons x R hx hT' hR ih' =>
     intro g
     rw [nj,hT']at g
     by_cases e:w=x
     .subst e
      exact ⟨_,.cons w R hx hT' hR,cg _⟩
     .rcases li.1 g with g | g
      .exact absurd g e
      .obtain ⟨Y,y1,y2⟩:=ih' g
       exact ⟨Y,y1,by rw[pg];omega⟩
   obtain ⟨Y,y1,y2⟩:=key hQ g
   have := Ain y1 (.cons w Q hw hT hQ)
   rw [this,pg]at y2
   omega
 exact ⟨P,hP,k3,hnd hP,htight hP hv hr⟩
end
structure SB (A:List Arc) (N m s t:Nat) (sent:Int):Prop where
 wp : WPr A m
 ar : ∀k,k<A.length->aF A k<N/\aT A k<N
 sN : s<N
 tN : t<N
 st : s≠t
 pr : ∀k,k<A.length -> -1000000<=aP A k/\aP A k<=1000000
 val : (fnA A N s t).Val (flA A) sent
 pot : ∃φ:Nat->Int,∀k,k<A.length->0<aL A k->0<=aP A k+φ (aF A k)-φ (aT A k)
theorem SI.sb {A:List Arc} {out:List (List Nat)} {lv:List Int} {N m s t:Nat} {sent:Int} (S:SI A out lv N m s t sent):SB A N m s t sent :=
 ⟨S.wp, S.ar,S.sN,S.tN,S.st,S.pr,S.val,by obtain⟨φ,h,_⟩:=S.pot;exact⟨φ,h⟩⟩
def sL (A:List Arc) (N s t:Nat):List Nat:=Fg A (SX A N s).last s N t
inductive SpecR (N s t:Nat) (bytes:Int):List Arc->Int->List Arc->Int->Prop
 | full (A sent) (h:¬sent<bytes):SpecR N s t bytes A sent A sent
 | stop (A sent) (h:sent<bytes) (hd:(SX A N s).known.getD t false=false):SpecR N s t bytes A sent A sent
 | step (A sent A' r) (h:sent<bytes) (hd:(SX A N s).known.getD t false=true)
   (hr : SpecR N s t bytes (aug A (Dp A (bytes-sent) (sL A N s t)) (sL A N s t)) (sent+Dp A (bytes-sent) (sL A N s t)) A' r):SpecR N s t bytes A sent A' r
end Sim
namespace Sim
open Go Go.Proofs
theorem AQ:pk.follows .mixedOrders=true:=by kernel_rfl
abbrev itV (x:It):PV:=.agg [I x.1,I (x.2:Nat)]
theorem LA {l:List It} {k:Nat} (h:k<l.length):nth (l.map itV) k=.agg [I (l.getD k dI).1,I ((l.getD k dI).2:Nat)]:=BW dI h
theorem Ab7 {l:List It}:AU (l.map itV)=true:=Gx λx=>by simp[HB,CX,Fo,Eu]
theorem Zz {l m:List It}:(l.map itV=m.map itV)=(l=m):=Gy λx y h=>by
 simp only[qr,ix,true_and,and_true,qt]at h
 exact qu h.1 (by omega)
abbrev E8 (a:Arc):PV:=.agg [I (a.1:Nat),I (a.2.1:Nat),I a.2.2.1,I a.2.2.2]
theorem ER {l:List Arc} {k:Nat} (h:k<l.length):nth (l.map E8) k=.agg [I ((l.getD k dA).1:Nat),I ((l.getD k dA).2.1:Nat),I (l.getD k dA).2.2.1,I (l.getD k dA).2.2.2]:=BW dA h
theorem sM {l:List Arc}:AU (l.map E8)=true:=Gx λx=>by simp[HB,CX,Fo,Eu]
theorem Pf {l m:List Arc}:(l.map E8=m.map E8)=(l=m):=Gy λx y h=>by
 simp only[qr,ix,true_and,and_true,qt]at h
 exact qu (by omega) (qu (by omega) (qu h.2.2.1 h.2.2.2))
abbrev Lnk:=Int×Int×(Fin 24->Int)×(Fin 24->Int)
abbrev dL:Lnk:=(0,0,λ_=>0,λ_=>0)
def lkC (a:Lnk):List PV:=I a.1::I a.2.1::((qv a.2.2.1).map (mt .i64)++(qv a.2.2.2).map (mt .i64))
abbrev FS (a:Lnk):PV:=.agg (lkC a)
abbrev AS (l:List Lnk):PV:=.lits 50 (l.map FS)
abbrev Net:=Int×List Lnk
abbrev sP (n:Net):PV:=.agg [I n.1,AS n.2]
abbrev Snd:=Int×Int×Int
abbrev dS:Snd:=(0,0,0)
abbrev Ca (a:Snd):PV:=.agg [I a.1,I a.2.1,I a.2.2]
abbrev Ay (l:List Snd):PV:=.lits 3 (l.map Ca)
def E9 (a:Lnk) (h:Nat):Int:=if g:h<24 then a.2.2.1 ⟨h,g⟩else 0
def Gl (a:Lnk) (h:Nat):Int:=if g:h<24 then a.2.2.2 ⟨h,g⟩else 0
theorem NT {f:Fin 24->Int} {h:Nat} (g:h<24):(qv f)[h]?=some (f ⟨h,g⟩):=by
 rw [List.getElem?_eq_getElem (by rw[qw];exact g),List.getElem_ofFn]
theorem sQ {f g:Fin 24->Int} (h:qv f=qv g):f=g:=funext λi=>by
 have h1:=NT (f:=f) i.2
 have h2:=NT (f:=g) i.2
 rw [h,h2]at h1
 exact (Option.some.inj h1).symm
theorem Ja {f:Fin 24->Int}:((qv f).map (mt .i64)).length=24:=by rw[ow,qw]
section
variable {a:Lnk}
theorem BK:(lkC a).length=50:=by simp[lkC]
theorem IA:(lkC a)[0]?=some (I a.1):=by simp[lkC]
theorem Pg:(lkC a)[1]?=some (I a.2.1):=by simp[lkC]
theorem Fp {h:Nat} (g:h<24):(lkC a)[2+h]?=some (I (E9 a h)):=by
 simp only[lkC,E9,g,dite_true]
 rw [show 2+h=h+1+1 by omega,qx,qx,cq (by rw[Ja];exact g),bw,NT g];rfl
theorem HI {h:Nat} (g:h<24):(lkC a)[26+h]?=some (I (Gl a h)):=by
 simp only[lkC,Gl,g,dite_true]
 rw [show 26+h=(24+h)+1+1 by omega,qx,qx,List.getElem?_append_right (by rw[Ja];omega),Ja,show 24+h-24=h by omega,bw,NT g];rfl
theorem C8:List.take 50 (lkC a)=lkC a:=List.take_of_length_le (by rw[BK];omega)
end
theorem Ab8 {a b:Lnk} (h:lkC a=lkC b):a=b:=by
 simp only[lkC,ix,qt,true_and]at h
 obtain ⟨h1,h2,h3⟩:=h
 obtain ⟨h4,h5⟩:=qy h3 (by rw[Ja,Ja])
 have e:∀ {f g:Fin 24->Int},(qv f).map (mt .i64)=(qv g).map (mt .i64)->f=g:=λh=>sQ (GZ (λx y h=>by injection h) h)
 exact qu h1 (qu h2 (qu (e h4) (e h5)))
theorem ZA {a:Lnk}:AU (lkC a)=true:=by
 have : ∀ {l:List Int} {r:List PV},AU r=true->AU (l.map (mt .i64)++r)=true:=by
  intro l r h
  induction l with
  | nil=>exact h
  | cons a l ih=>simp[CX,Fo,ih]
 simp only[lkC,CX,Fo,Bool.true_and]
 exact this (G1)
theorem Cg {l:List Lnk} {k:Nat} (h:k<l.length):nth (l.map FS) k=.agg (lkC (l.getD k dL)):=BW dL h
theorem Aa {l:List Lnk}:AU (l.map FS)=true:=Gx λx=>by rw[HB,ZA]
theorem AF {l m:List Lnk}:(l.map FS=m.map FS)=(l=m):=Gy λx y h=>by
 simp only[qr]at h
 exact Ab8 h
theorem A7 {l:List Snd} {k:Nat} (h:k<l.length):nth (l.map Ca) k=.agg [I (l.getD k dS).1,I (l.getD k dS).2.1,I (l.getD k dS).2.2]:=BW dS h
theorem Ac {l:List Snd}:AU (l.map Ca)=true:=Gx λx=>by simp[HB,CX,Fo,Eu]
theorem AG {l m:List Snd}:(l.map Ca=m.map Ca)=(l=m):=Gy λx y h=>by
 simp only[qr,ix,true_and,and_true,qt]at h
 exact qu h.1 (qu h.2.1 h.2.2)
end Sim
namespace Sim
open Go Go.Proofs
attribute [local congr] Ah Ai Ag At Al Aj Aq
structure QS where
 aid : Nat
 g : Nat
 n : Nat
 l : List It
 u : Nat
 v : Nat
def QS.sl (x:QS):PV:=.ref x.aid x.g 0 x.n
def QS.at (x:QS) (st:Store):Prop:=st.obj x.aid=some (.arr x.g 2 (x.l.map itV))/\x.n<=x.l.length/\x.l.length<=1073741824
theorem QS.same {x y:QS} {st:Store} (h:x.sl=y.sl) (hx:x.at st) (hy:y.at st):x.aid=y.aid/\x.g=y.g/\x.n=y.n/\x.l=y.l:=by
 unfold QS.sl at h
 simp only[qz,true_and]at h
 have hy1:=hy.1
 rw [<-h.1]at hy1
 have := hx.1.symm.trans hy1
 simp only[bp,q8,Zz]at this
 exact ⟨h.1,h.2.1,h.2.2,this.2.2⟩
def MJ (x:QS):List PV := [x.sl]
def ML (x:QS) (st:Store):PV×Store:=(I (x.n:Nat),st)
def e_qlen:Nat×Ent:=(100,.x (A9 MJ QS.at ML))
theorem Aiq (x y:QS) (st:Store) (h:MJ x=MJ y) (hx:x.at st) (hy:y.at st):ML x st=ML y st:=by
 simp only[MJ,ix,and_true]at h
 simp only[ML,(QS.same h hx hy).2.2.1]
def ES (x:QS) (st:Store):Prop:=x.at st/\x.u<x.n/\x.v<x.n
def Fh (x:QS):List PV := [x.sl,I (x.u:Nat),I (x.v:Nat)]
theorem QS.same3 {x y:QS} {st:Store} (h:Fh x=Fh y) (hx:ES x st) (hy:ES y st):x=y:=by
 simp only[Fh,ix,and_true,qt,true_and]at h
 obtain ⟨a1,a2,a3,a4⟩:=QS.same h.1 hx.1 hy.1
 cases x;cases y
 simp only at a1 a2 a3 a4 h
 simp only[QS.mk.injEq]
 exact ⟨a1,a2,a3,a4,by omega,by omega⟩
def Ju (x:QS) (st:Store):PV×Store:=(.bool (decide (kI x.l x.u<kI x.l x.v)),st)
def e_qless:Nat×Ent:=(140,.x (A9 Fh ES Ju))
def HJ (x:QS) (st:Store):PV×Store:=(.tuple [],st.set x.aid (.arr x.g 2 ((swp x.l x.u x.v).map itV)))
def e_qswap:Nat×Ent:=(143,.x (A9 Fh ES HJ))
theorem Av {ob:Nat->Option IObj} {i:Nat} {a b:Option IObj}:Ab (Ab ob i a) i b=Ab ob i b:=by
 funext j;simp only[Ab];split <;> rfl
theorem jA {r:PV} {st:Store}:Left r st r st:=q9
theorem Ab9 {l:List It} {k:Nat} {x:It}:(l.map itV).set k (.agg [I x.1,I (x.2:Nat)])=(l.set k x).map itV:=by rw[List.map_set]
theorem Yu:AM pk e_qlen.1 e_qlen.2:=Cf λx st hx=>by
 obtain ⟨aid,g,n,l,u,v⟩:=x
 obtain ⟨ob,M⟩:=st
 unfold QS.at at hx
 dsimp only at hx
 obtain ⟨h1,h2,h3⟩:=hx
 simp only[MJ,ML,QS.sl]
 refine BT AQ (l := []) (Au) [] [] 0 Tryz.func100 rfl (by decide +kernel) (N:=5) rfl (by simp) rfl (by kernel_rfl) ?_
 simp only[↓bdD,bdP,seval,Ao,Tryz.f100,Do,h1,jA]
theorem ZB:AM pk e_qless.1 e_qless.2:=Cf λx st hx=>by
 obtain ⟨aid,g,n,l,u,v⟩:=x
 obtain ⟨ob,M⟩:=st
 unfold ES QS.at at hx
 dsimp only at hx
 obtain ⟨⟨h1,h2,h3⟩,h4,h5⟩:=hx
 simp only[Fh,Ju,QS.sl,kI]
 have h6:u<l.length:=by omega
 have h7:v<l.length:=by omega
 refine BT AQ (l := []) (Au) [] [] 0 Tryz.func140 rfl (by decide +kernel) (N:=18) rfl (by simp) rfl (by kernel_rfl) ?_
 simp only[↓bdD,bdP,seval,Ao,LA,Tryz.f140,ty3,I7,Do,h1,h2,h4,h5,h6,h7]
 exact q9
theorem SZ:AM pk e_qswap.1 e_qswap.2:=Cf λx st hx=>by
 obtain ⟨aid,g,n,l,u,v⟩:=x
 obtain ⟨ob,M⟩:=st
 unfold ES QS.at at hx
 dsimp only at hx
 obtain ⟨⟨h1,h2,h3⟩,h4,h5⟩:=hx
 have h6:u<l.length:=by omega
 have h7:v<l.length:=by omega
 simp only[Fh,HJ,QS.sl]
 refine BT AQ (l := []) (Au) [] [] 0 Tryz.func143 rfl (by decide +kernel) (N:=20) rfl (by simp) rfl (by kernel_rfl) ?_
 have h8:v<(l.set u (l.getD v dI)).length:=by rw[ra];exact h7
 have e1:Bi (nth ((l.set u (l.getD v dI)).map itV) v) 0 [I (l.getD u dI).1,I ((l.getD u dI).2:Nat)]=.agg [I (l.getD u dI).1,I ((l.getD u dI).2:Nat)]:=by rw[LA h8];rfl
 simp only[↓bdD,bdP,seval,Ao,kd,LA,Tryz.f143,I7,Do,h1,h2,h4,h5,h6,h7,ra,Ab9,Av]
 exact ⟨_,rfl,q9⟩
structure HS where
 qid : Nat
 qg : Nat
 aid : Nat
 g : Nat
 q : List It
 tl : List It
 x : It
 j : Nat
 k : Nat
def HS.p (h:HS):PV:=.ptr h.qid h.qg 0 0
def HS.at (h:HS) (st:Store):Prop:=st.obj h.qid=some (.arr h.qg 1 [.ref h.aid h.g 0 h.q.length])/\st.obj h.aid=some (.arr h.g 2 ((h.q++h.tl).map itV))/\(h.q++h.tl).length<=1000000000/\h.qid<st.next/\h.aid<st.next
def hpS (ob:Nat->Option IObj) (nx qid qg aid g:Nat) (q tl:List It):Store:=⟨Ab (Ab ob aid (some (.arr g 2 ((q++tl).map itV)))) qid (some (.arr qg 1 [.ref aid g 0 q.length])),nx⟩
theorem HS.same {x y:HS} {st:Store} (h:x.p=y.p) (hx:x.at st) (hy:y.at st):x.qid=y.qid/\x.qg=y.qg/\x.aid=y.aid/\x.g=y.g/\x.q=y.q/\x.tl=y.tl:=by
 unfold HS.p at h
 simp only[PV.ptr.injEq,and_true]at h
 obtain ⟨h1,h2,_,_⟩:=hx
 obtain ⟨h3,h4,_,_⟩:=hy
 rw [<-h.1,h1]at h3
 simp only[bp,q8,ix,qz,and_true,true_and]at h3
 rw [<-h3.2.1,h2]at h4
 simp only[bp,q8,Zz,true_and]at h4
 obtain ⟨e1,e2⟩:=qy h4.2 h3.2.2.2
 exact ⟨h.1,h.2,h3.2.1,h3.2.2.1,e1,e2⟩
theorem HS.ne {h:HS} {st:Store} (hx:h.at st):¬h.aid=h.qid:=λe=>by
 have h1:=hx.1
 rw [<-e,hx.2.1]at h1
 simp only[bp,q8]at h1
 omega
theorem HS.lt {h:HS} {st:Store} (hx:h.at st):h.qid<st.next/\h.aid<st.next:=hx.2.2.2
theorem Ri {l:List It}:(l.map itV).all kj=true:=by simp[kj,PV.isInt1]
def jB (h:HS):List PV := [h.p,.iface 179 (itV h.x)]
def psQ (h:HS):Nat×List It:=if h.tl = []then (h.g+1,[])else (h.g,h.tl.tail)
def Jv (h:HS) (st:Store):PV×Store:=(.tuple [],hpS st.obj st.next h.qid h.qg h.aid (psQ h).1 (h.q ++ [h.x]) (psQ h).2)
def e_qpush:Nat×Ent:=(142,.x (A9 jB HS.at Jv))
theorem Aca (x y:HS) (st:Store) (h:jB x=jB y) (hx:x.at st) (hy:y.at st):Jv x st=Jv y st:=by
 simp only[jB,ix,and_true,rg,true_and,qr,qt]at h
 obtain ⟨a1,a2,a3,a4,a5,a6⟩:=HS.same h.1 hx hy
 have a7:x.x=y.x:=qu h.2.1 (by omega)
 simp only[Jv,psQ,a1,a2,a3,a4,a5,a6,a7]
theorem Acb:AM pk e_qpush.1 e_qpush.2:=Cf λh st hx=>by
 have hne:=HS.ne hx
 obtain ⟨qid,qg,aid,g,q,tl,x,j,k⟩:=h
 obtain ⟨ob,M⟩:=st
 unfold HS.at at hx
 dsimp only at hx hne
 obtain ⟨h1,h2,h3,h4⟩:=hx
 have hne2:¬qid=aid:=λe=>hne e.symm
 rw [cu]at h3
 simp only[jB,Jv,HS.p]
 refine BT AQ (l := []) (Au) [] [700011,700012] 0 Tryz.func142 rfl (by decide +kernel) (N:=13) rfl (by simp) rfl (by kernel_rfl) ?_
 have b1:q.length+1<=2147483648:=by omega
 cases tl with
 | nil =>
  simp only[qq]at h2
  have b2:¬q.length+1<=q.length:=by omega
  simp only[↓bdD,bdP,seval,Ao,kd,Tryz.f142,I7,Do,h1,h2,hne2,Ri,b1,b2]
  refine ⟨_,rfl,?_⟩
  simp only[psQ,if_true,hpS,qq,cu,pg,rh,Nat.zero_add,qp,nj,List.map_nil]
  exact q9
 | cons y tl =>
  have b2:q.length+1<=q.length+(tl.length+1):=by omega
  have b3:q.length<=q.length+(tl.length+1):=by omega
  have e0:(q.map itV).length=q.length:=ow _
  simp only[↓bdD,bdP,seval,Ao,kd,Tryz.f142,I7,Do,h1,h2,hne2,Ri,b1,b2,b3]
  have e1:List.take q.length ((q++y::tl).map itV) ++ [itV x]++List.drop (q.length+1) ((q++y::tl).map itV)=(q ++ [x]++tl).map itV:=by
   rw [qp,List.take_left' e0,List.drop_append,e0,List.drop_of_length_le (by omega),show q.length+1-q.length=1 by omega]
   simp
  refine ⟨_,rfl,?_⟩
  rw [e1]
  simp only[psQ,hpS,reduceCtorEq,if_false,List.tail_cons,cu,pg,rh,Nat.zero_add]
  exact q9
def jC (h:HS):List PV := [h.p]
def GN (h:HS) (st:Store):Prop:=h.at st/\0<h.q.length
def MM (h:HS) (st:Store):PV×Store:=(.iface 179 (itV (h.q.getD (h.q.length-1) dI)),hpS (Ab st.obj st.next none) (st.next+1) h.qid h.qg h.aid h.g (h.q.take (h.q.length-1)) (h.q.drop (h.q.length-1)++h.tl))
def e_qpop:Nat×Ent:=(141,.x (A9 jC GN MM))
theorem Air (x y:HS) (st:Store) (h:jC x=jC y) (hx:GN x st) (hy:GN y st):MM x st=MM y st:=by
 simp only[jC,ix,and_true]at h
 obtain ⟨a1,a2,a3,a4,a5,a6⟩:=HS.same h hx.1 hy.1
 simp only[MM,a1,a2,a3,a4,a5,a6]
theorem Ais:AM pk e_qpop.1 e_qpop.2:=Cf λh st hx=>by
 obtain ⟨hx,hq⟩:=hx
 have hne:=HS.ne hx
 have hlt:=HS.lt hx
 obtain ⟨qid,qg,aid,g,q,tl,x,j,k⟩:=h
 obtain ⟨ob,M⟩:=st
 unfold HS.at at hx
 dsimp only at hx hne hq hlt
 obtain ⟨h1,h2,h3,h4⟩:=hx
 obtain ⟨l1,l2⟩:=hlt
 have hne2:¬qid=aid:=λe=>hne e.symm
 have m1:¬qid=M:=by omega
 have m2:¬aid=M:=by omega
 have m3:¬M=qid:=by omega
 have m4:¬M=aid:=by omega
 rw [cu]at h3
 simp only[jC,MM,HS.p]
 refine BT AQ (l := []) (Au) [] [] 0 Tryz.func141 rfl (by decide +kernel) (N:=23) rfl (by simp) rfl (by kernel_rfl) ?_
 obtain ⟨n,hn⟩:∃n,q.length=n+1:=⟨q.length-1,by omega⟩
 have w1:nm.wrap ((n:Int)+1-1)=(n:Int):=by rw[Af (by omega) (by omega)];omega
 have w2:nm.wrap (((n+1:Nat):Int)-1)=(n:Int):=by rw[Af (by omega) (by omega)];omega
 have b1:n<(q++tl).length:=by rw[cu];omega
 have b2:n<n+1:=by omega
 have e1:(q++tl).getD n dI=q.getD n dI:=by
  rw [oa,cq (by omega),oa]
 rw [hn]at h1
 have hn1:=LA b1
 simp only[↓bdD,bdP,seval,Ao,Store.new,kd,Tryz.f141,I7,Do,h1,h2,hn,hn1,m1,m2,m3,w2,b2,e1]
 refine ⟨by omega,by omega,Left.same rfl (λi o hi=>?_) (cg _)⟩
 simp only[hpS,Ab]at hi ⊢
 by_cases c1:i=qid
 .rw [if_pos c1]at hi ⊢
  rw [<-hi]
  simp [hn]
 .rw [if_neg c1]at hi ⊢
  by_cases c2:i=aid
  .subst c2
   rw [if_pos rfl]at hi
   rw [if_neg m2,if_neg m2,h2,<-hi,<-List.append_assoc,ri]
  .rw [if_neg c2]at hi
   by_cases c3:i=M
   .rw [if_pos c3]at hi;cases hi
   .rw [if_neg c3]at hi
    rw [if_neg c3,if_neg c3,hi]
def HS.pi (h:HS):PV:=.iface 177 h.p
theorem Acc (x y:QS) (st:Store) (h:Fh x=Fh y) (hx:ES x st) (hy:ES y st):Ju x st=Ju y st:=by rw[QS.same3 h hx hy]
theorem Acd (x y:QS) (st:Store) (h:Fh x=Fh y) (hx:ES x st) (hy:ES y st):HJ x st=HJ y st:=by rw[QS.same3 h hx hy]
theorem Yv {aid g n:Nat} (l:List It) {st:Store} (h:QS.at ⟨aid,g,n,l,0,0⟩ st):A9 MJ QS.at ML [.ref aid g 0 n] st=some (I (n:Nat),st):=Bc Aiq (i:=⟨aid,g,n,l,0,0⟩) h
theorem ZC {aid g n u v:Nat} (l:List It) {st:Store} (h:ES ⟨aid,g,n,l,u,v⟩ st):A9 Fh ES Ju [.ref aid g 0 n,I (u:Nat),I (v:Nat)] st=some (.bool (decide (kI l u<kI l v)),st) :=
 Bc Acc (i:=⟨aid,g,n,l,u,v⟩) h
theorem S0 {aid g n u v:Nat} (l:List It) {ob:Nat->Option IObj} {M:Nat} (h:ES ⟨aid,g,n,l,u,v⟩ ⟨ob,M⟩):A9 Fh ES HJ [.ref aid g 0 n,I (u:Nat),I (v:Nat)] ⟨ob,M⟩=some (.tuple [],⟨Ab ob aid (some (.arr g 2 ((swp l u v).map itV))),M⟩) :=
 Bc Acd (i:=⟨aid,g,n,l,u,v⟩) h
section
variable {l tl:List It}
theorem Ph {k:Nat} (h:k<l.length):(l++tl).getD k dI=l.getD k dI:=by
 rw [oa,cq h,oa]
theorem NU {k:Nat} (h:k<l.length):kI (l++tl) k=kI l k:=by unfold kI;rw[Ph h]
theorem S1 {u v:Nat} (hu:u<l.length) (hv:v<l.length):swp (l++tl) u v=swp l u v++tl:=by
 unfold swp
 rw [Ph hu,Ph hv,rn,if_pos hu,rn,if_pos (by rw[ra];exact hv)]
end
abbrev hpO (ob:Nat->Option IObj) (qid qg aid g:Nat) (q tl:List It):Nat->Option IObj:=Ab (Ab ob aid (some (.arr g 2 ((q++tl).map itV)))) qid (some (.arr qg 1 [.ref aid g 0 q.length]))
section
variable {ob:Nat->Option IObj}
theorem Pi {qid qg aid g:Nat} {q tl:List It} (h1:ob qid=some (.arr qg 1 [.ref aid g 0 q.length])) (h2:ob aid=some (.arr g 2 ((q++tl).map itV))):hpO ob qid qg aid g q tl=ob:=by
 funext i
 simp only[hpO,Ab]
 by_cases c1:i=qid
 .rw [if_pos c1,c1,h1]
 .rw [if_neg c1]
  by_cases c2:i=aid
  .rw [if_pos c2,c2,h2]
  .rw [if_neg c2]
theorem S3 {qid qg aid g:Nat} {q q' tl:List It} (hne:¬aid=qid) (hl:q'.length=q.length):Ab (hpO ob qid qg aid g q tl) aid (some (.arr g 2 ((q'++tl).map itV)))=hpO ob qid qg aid g q' tl:=by
 funext i
 simp only[hpO,Ab]
 by_cases c1:i=aid
 .have c2:¬i=qid:=by rw[c1];exact hne
  rw [if_pos c1,if_neg c2,if_pos c1]
 .rw [if_neg c1,if_neg c1,if_neg c1,hl]
theorem S4 {M qid qg aid g n:Nat} {q tl:List It} {u v:Nat} (hne:¬aid=qid) (hn:n=q.length) (hb:q.length+tl.length<=1000000000):QS.at ⟨aid,g,n,q++tl,u,v⟩ ⟨hpO ob qid qg aid g q tl,M⟩:=by
 refine ⟨?_,?_,?_⟩
 .simp only[hpO,Ab,if_neg hne,if_true]
 .dsimp only
  rw [cu];omega
 .dsimp only
  rw [cu];omega
end
def VE (h:HS) (st:Store):Prop:=h.at st/\h.j<h.q.length
def Rj (h:HS):List PV := [h.pi,I (h.j:Nat)]
def Rk (h:HS) (st:Store):PV×Store:=(.tuple [],hpS st.obj st.next h.qid h.qg h.aid h.g (upF (h.j+1) h.q h.j) h.tl)
def e_hup:Nat×Ent:=(117,.x (A9 Rj VE Rk))
theorem Amz (x y:HS) (st:Store) (h:Rj x=Rj y) (hx:VE x st) (hy:VE y st):Rk x st=Rk y st:=by
 simp only[Rj,HS.pi,ix,and_true,rg,true_and,qt]at h
 obtain ⟨a1,a2,a3,a4,a5,a6⟩:=HS.same h.1 hx.1 hy.1
 have a7:x.j=y.j:=by omega
 simp only[Rk,a1,a2,a3,a4,a5,a6,a7]
theorem Aob {j:Nat} (h:j<=1000000000):nm.wrap (Int.tdiv ((j:Int)-1) 2)=(((j-1) / 2:Nat):Int):=by
 rcases Nat.eq_zero_or_pos j with rfl | hj
 .decide
 .rw [Int.tdiv_eq_ediv_of_nonneg (by omega),Af (by omega) (by omega)]
  omega
theorem Am0:AM pk e_hup.1 e_hup.2:=Cf λh st hx=>by
 obtain ⟨hx,hj⟩:=hx
 have hne:=HS.ne hx
 obtain ⟨qid,qg,aid,g,q,tl,x,j,k⟩:=h
 obtain ⟨ob,M⟩:=st
 unfold HS.at at hx
 dsimp only at hx hne hj
 obtain ⟨h1,h2,h3,h4⟩:=hx
 have hne2:¬qid=aid:=λe=>hne e.symm
 rw [cu]at h3
 simp only[Rj,Rk,HS.p,HS.pi,hpS]
 obtain ⟨R,hR⟩:∃R,upF (j+1) q j=R:=⟨_,rfl⟩
 rw [hR]
 refine BT AQ (l := [e_qless,e_qswap]) ((Ad ZB (Ad SZ Au))) [] [] 0 Tryz.func117 rfl (by decide +kernel) (N:=23) rfl (by simp) rfl (by kernel_rfl) ?_
 simp only[↓bdD,bdP,e_qless,e_qswap,Tryz.f117]
 refine Et [1,4,5,6,7,8,9,10,11,12,13,14,15,16,17,18,19,20,21,22] (j+1) (λm ρ st'=>∃l' j',ρ 1=I (j':Nat)/\j'<m/\j'<q.length/\l'.length=q.length/\upF m l' j'=R/\st'=⟨hpO ob qid qg aid g l' tl,M⟩) (.refl _) ?_ ?_
 .refine ⟨q,j,rfl,by omega,hj,rfl,hR,?_⟩
  rw [Pi h1 h2]
 rintro m ρ st' ⟨l',j',r1,r2,r3,r4,r5,rfl⟩
 have w1:nm.wrap ((j':Int)-1)=(j':Int)-1:=Af (by omega) (by omega)
 have w2:=Aob (j:=j') (by omega)
 have hL:=ZC (u:=j') (v:=(j'-1) / 2) (l'++tl) (st:=⟨hpO ob qid qg aid g l' tl,M⟩) (n:=l'.length) (g:=g) (aid:=aid) ⟨S4 hne rfl (by omega),by dsimp only;omega,by dsimp only;omega⟩
 have hS:=S0 (u:=(j'-1) / 2) (v:=j') (l'++tl) (ob:=hpO ob qid qg aid g l' tl) (M:=M) (n:=l'.length) (g:=g) (aid:=aid) ⟨S4 hne rfl (by omega),by dsimp only;omega,by dsimp only;omega⟩
 simp +contextual (maxSteps:=4000000) only[↓bdD,bdP,seval,Ao,ty3,r1,w1,w2,hL,hS,DX,Do]
 obtain ⟨m1,rfl⟩:∃m1,m=m1+1:=⟨m-1,by omega⟩
 have k1:kI (l'++tl) j'=kI l' j':=NU (by omega)
 have k2:kI (l'++tl) ((j'-1) / 2)=kI l' ((j'-1) / 2):=NU (by omega)
 rw [k1,k2]
 simp only[upF]at r5
 refine ⟨λa=>⟨λb=>?_,λb=>?_⟩,λa=>?_⟩
 .rw [if_pos (.inr b)]at r5
  subst r5
  exact ⟨_,rfl,q9⟩
 .rw [if_neg (by simp[a,b])]at r5
  rw [S1 (by omega) (by omega)]
  refine ⟨m1,by omega,_,by omega,by omega,?_,r5,?_⟩
  .rw [BJ,r4]
  .rw [S3 hne (by rw[BJ])]
 .rw [if_pos (.inl a)]at r5
  subst r5
  exact ⟨_,rfl,q9⟩
def NG:Nat->List It->Nat->Nat->Nat
 | 0,_,i,_=>i
 | f+1,l,i,n=>if n<=2*i+1\/¬kI l (chC l i n)<kI l i then i else NG f (swp l i (chC l i n)) (chC l i n) n
def LB (h:HS) (st:Store):Prop:=h.at st/\h.j<h.q.length/\h.k<=h.q.length
def Jw (h:HS):List PV := [h.pi,I (h.j:Nat),I (h.k:Nat)]
def Jx (h:HS) (st:Store):PV×Store:=(.bool (decide (h.j<NG h.q.length h.q h.j h.k)),hpS st.obj st.next h.qid h.qg h.aid h.g (DZ h.q.length h.q h.j h.k) h.tl)
def e_hdown:Nat×Ent:=(115,.x (A9 Jw LB Jx))
theorem Ace (x y:HS) (st:Store) (h:Jw x=Jw y) (hx:LB x st) (hy:LB y st):Jx x st=Jx y st:=by
 simp only[Jw,HS.pi,ix,and_true,rg,true_and,qt]at h
 obtain ⟨a1,a2,a3,a4,a5,a6⟩:=HS.same h.1 hx.1 hy.1
 have a7:x.j=y.j:=by omega
 have a8:x.k=y.k:=by omega
 simp only[Jx,a1,a2,a3,a4,a5,a6,a7,a8]
theorem Acf:AM pk e_hdown.1 e_hdown.2:=Cf λh st hx=>by
 obtain ⟨hx,hj,hk⟩:=hx
 have hne:=HS.ne hx
 obtain ⟨qid,qg,aid,g,q,tl,x,j,n⟩:=h
 obtain ⟨ob,M⟩:=st
 unfold HS.at at hx
 dsimp only at hx hne hj hk
 obtain ⟨h1,h2,h3,h4⟩:=hx
 have hne2:¬qid=aid:=λe=>hne e.symm
 rw [cu]at h3
 simp only[Jw,Jx,HS.p,HS.pi,hpS]
 obtain ⟨R,hR⟩:∃R,DZ q.length q j n=R:=⟨_,rfl⟩
 obtain ⟨S,hS⟩:∃S,NG q.length q j n=S:=⟨_,rfl⟩
 rw [hR,hS]
 refine BT AQ (l := [e_qless,e_qswap]) ((Ad ZB (Ad SZ Au))) [] [] 0 Tryz.func115 rfl (by decide +kernel) (N:=48) rfl (by simp) rfl (by kernel_rfl) ?_
 simp only[↓bdD,bdP,seval,e_qless,e_qswap,Tryz.f115]
 refine Et [7,8,9,10,12,13,14,15,16,17,18,19,20,21,22,23,24,25,26,27,28,29,30,31,32,33,34,35,36,37,38,39,40,41,42,43,44] q.length (λm ρ st'=>∃l' i',ρ 7=I (i':Nat)/\q.length<=i'+m/\i'<q.length/\l'.length=q.length/\DZ m l' i' n=R/\NG m l' i' n=S/\st'=⟨hpO ob qid qg aid g l' tl,M⟩) (.refl _) ?_ ?_
 .simp only[↓bdD,bdP]
  refine ⟨q,by omega,hj,rfl,hR,hS,?_⟩
  rw [Pi h1 h2]
 rintro m ρ st' ⟨l',i',r1,r2,r3,r4,r5,r6,rfl⟩
 obtain ⟨a,ha⟩:∃a,a=2*i'+1:=⟨_,rfl⟩
 obtain ⟨b,hb⟩:∃b,b=2*i'+2:=⟨_,rfl⟩
 have w1:nm.wrap (2*(i':Int))=2*(i':Int):=Af (by omega) (by omega)
 have w2:nm.wrap (2*(i':Int)+1)=(a:Int):=by rw[Af (by omega) (by omega)];omega
 have w3:nm.wrap ((a:Int)+1)=(b:Int):=by rw[Af (by omega) (by omega)];omega
 have hneg:¬(a:Int)<0:=by omega
 by_cases c0:n<=a
 .have g1:R=l'/\S=i':=by
   cases m with
   | zero=>exact⟨r5.symm,r6.symm⟩
   | succ m =>
    simp only[DZ,NG]at r5 r6
    rw [if_pos (.inl (by omega))]at r5 r6
    exact ⟨r5.symm,r6.symm⟩
  obtain ⟨rfl,rfl⟩:=g1
  have c0i:(n:Int)<=(a:Int):=by omega
  simp only[↓bdD,bdP,seval,Ao,r1,w1,w2,c0i]
  exact q9
 have c0i:¬(n:Int)<=(a:Int):=by omega
 obtain ⟨m1,rfl⟩:∃m1,m=m1+1:=⟨m-1,by omega⟩
 simp only[DZ,NG]at r5 r6
 have key:∀c,chC l' i' n=c->c<q.length->i'<c->(¬kI l' c<kI l' i'->R=l'/\S=i')/\(kI l' c<kI l' i'->DZ m1 (swp l' i' c) c n=R/\NG m1 (swp l' i' c) c n=S):=λc e _ _=>by
  rw [e]at r5 r6
  constructor
  .intro h
   rw [if_pos (.inr h)]at r5 r6
   exact ⟨r5.symm,r6.symm⟩
  .intro h
   rw [if_neg (by intro hh;rcases hh with hh | hh;omega;exact hh h)]at r5 r6
   exact ⟨r5,r6⟩
 have hat:∀u v,QS.at ⟨aid,g,l'.length,l'++tl,u,v⟩ ⟨hpO ob qid qg aid g l' tl,M⟩:=λu v=>S4 hne rfl (by omega)
 have hL:∀u v,u<q.length->v<q.length->A9 Fh ES Ju [.ref aid g 0 l'.length,I (u:Nat),I (v:Nat)] ⟨hpO ob qid qg aid g l' tl,M⟩=some (.bool (decide (kI l' u<kI l' v)),⟨hpO ob qid qg aid g l' tl,M⟩):=λu v hu hv=>by
  rw [ZC (u:=u) (v:=v) (l'++tl) ⟨hat u v,by dsimp only;omega,by dsimp only;omega⟩,NU (by omega),NU (by omega)]
 have hW:∀c,c<q.length->A9 Fh ES HJ [.ref aid g 0 l'.length,I (i':Nat),I (c:Nat)] ⟨hpO ob qid qg aid g l' tl,M⟩=some (.tuple [],⟨hpO ob qid qg aid g (swp l' i' c) tl,M⟩):=λc hc=>by
  rw [S0 (u:=i') (v:=c) (l'++tl) ⟨hat i' c,by dsimp only;omega,by dsimp only;omega⟩,S1 (by omega) (by omega),S3 hne (by rw[BJ])]
 by_cases c1:b<n/\kI l' b<kI l' a
 .obtain ⟨c1,c2⟩:=c1
  have hL1:=hL b a (by omega) (by omega)
  have hL2:=hL b i' (by omega) (by omega)
  have hW2:=hW b (by omega)
  obtain ⟨k1,k2⟩:=key b (by unfold chC;rw[<-hb,<-ha,if_pos ⟨c1,c2⟩]) (by omega) (by omega)
  simp only[↓bdD,bdP,seval,Ao,ty3,r1,w1,w2,w3,hneg,c0i,c1,c2,hL1,hL2,hW2,DX,Do]
  refine ⟨λh=>?_,λh=>?_⟩
  .obtain ⟨rfl,rfl⟩:=k1 h
   exact q9
  .obtain ⟨e1,e2⟩:=k2 h
   exact ⟨m1,by omega,_,by omega,by omega,by rw[BJ,r4],e1,e2,rfl⟩
 .have hL2:=hL a i' (by omega) (by omega)
  have hW2:=hW a (by omega)
  obtain ⟨k1,k2⟩:=key a (by unfold chC;rw[<-hb,<-ha,if_neg c1]) (by omega) (by omega)
  by_cases c3:b<n
  .have hL1:=hL b a (by omega) (by omega)
   have c2:¬kI l' b<kI l' a:=λh=>c1 ⟨c3,h⟩
   simp only[↓bdD,bdP,seval,Ao,ty3,r1,w1,w2,w3,hneg,c0i,c3,c2,hL1,hL2,hW2,DX,Do]
   refine ⟨λh=>?_,λh=>?_⟩
   .obtain ⟨rfl,rfl⟩:=k1 h
    exact q9
   .obtain ⟨e1,e2⟩:=k2 h
    exact ⟨m1,by omega,_,by omega,by omega,by rw[BJ,r4],e1,e2,rfl⟩
  .simp only[↓bdD,bdP,seval,Ao,ty3,r1,w1,w2,w3,hneg,c0i,c3,hL2,hW2,DX,Do]
   refine ⟨λh=>?_,λh=>?_⟩
   .obtain ⟨rfl,rfl⟩:=k1 h
    exact q9
   .obtain ⟨e1,e2⟩:=k2 h
    exact ⟨m1,by omega,_,by omega,by omega,by rw[BJ,r4],e1,e2,rfl⟩
section
variable {ob:Nat->Option IObj}
theorem sR {M qid qg aid g:Nat} {q tl:List It} {x:It} {j k:Nat} (h1:qid<M) (h2:aid<M) (hne:¬aid=qid) (hl:q.length+tl.length<=1000000000):HS.at ⟨qid,qg,aid,g,q,tl,x,j,k⟩ ⟨hpO ob qid qg aid g q tl,M⟩:=by
 refine ⟨?_,?_,?_,h1,h2⟩
 .simp only[hpO,Ab,if_true]
 .simp only[hpO,Ab,if_neg hne,if_true]
 .dsimp only;rw[cu];exact hl
theorem S5 {qid qg aid g g':Nat} {q tl q' tl':List It}:hpO (hpO ob qid qg aid g q tl) qid qg aid g' q' tl'=hpO ob qid qg aid g' q' tl':=by
 funext i
 simp only[hpO,Ab]
 by_cases c1:i=qid
 .rw [if_pos c1,if_pos c1]
 .rw [if_neg c1,if_neg c1,if_neg c1]
  by_cases c2:i=aid
  .rw [if_pos c2,if_pos c2]
  .rw [if_neg c2,if_neg c2,if_neg c2]
theorem sS {qid qg aid g n:Nat} {q tl:List It} (h1:¬qid=n) (h2:¬aid=n):Ab (hpO ob qid qg aid g q tl) n none=hpO (Ab ob n none) qid qg aid g q tl:=by
 funext i
 simp only[hpO,Ab]
 by_cases c:i=n
 .rw [if_pos c,if_neg (by rw[c];exact λe=>h1 e.symm),if_neg (by rw[c];exact λe=>h2 e.symm),if_pos c]
 .rw [if_neg c,if_neg c]
theorem Acg {M qid qg aid g:Nat} {q tl:List It} {a b:Int} (x:It) (ha:a=x.1) (hb:b=(x.2:Nat)) (h:HS.at ⟨qid,qg,aid,g,q,tl,x,0,0⟩ ⟨ob,M⟩):A9 jB HS.at Jv [.ptr qid qg 0 0,.iface 179 (.agg [I a,I b])] ⟨ob,M⟩=some (.tuple [],⟨hpO ob qid qg aid (psQ ⟨qid,qg,aid,g,q,tl,x,0,0⟩).1 (q ++ [x]) (psQ ⟨qid,qg,aid,g,q,tl,x,0,0⟩).2,M⟩):=by
 subst ha;subst hb
 exact Bc Aca (i:=⟨qid,qg,aid,g,q,tl,x,0,0⟩) h
theorem Ait {M qid qg aid g:Nat} {q tl:List It} (h:GN ⟨qid,qg,aid,g,q,tl,dI,0,0⟩ ⟨ob,M⟩):A9 jC GN MM [.ptr qid qg 0 0] ⟨ob,M⟩=some (.iface 179 (itV (q.getD (q.length-1) dI)),⟨hpO (Ab ob M none) qid qg aid g (q.take (q.length-1)) (q.drop (q.length-1)++tl),M+1⟩) :=
 Bc Air (i:=⟨qid,qg,aid,g,q,tl,dI,0,0⟩) h
theorem Am1 {M qid qg aid g j:Nat} {q tl:List It} (h:VE ⟨qid,qg,aid,g,q,tl,dI,j,0⟩ ⟨ob,M⟩):A9 Rj VE Rk [.iface 177 (.ptr qid qg 0 0),I (j:Nat)] ⟨ob,M⟩=some (.tuple [],⟨hpO ob qid qg aid g (upF (j+1) q j) tl,M⟩) :=
 Bc Amz (i:=⟨qid,qg,aid,g,q,tl,dI,j,0⟩) h
theorem Ach {M qid qg aid g n:Nat} {q tl:List It} (h:LB ⟨qid,qg,aid,g,q,tl,dI,0,n⟩ ⟨ob,M⟩):A9 Jw LB Jx [.iface 177 (.ptr qid qg 0 0),I 0,I (n:Nat)] ⟨ob,M⟩=some (.bool (decide (0<NG q.length q 0 n)),⟨hpO ob qid qg aid g (DZ q.length q 0 n) tl,M⟩) :=
 Bc Ace (i:=⟨qid,qg,aid,g,q,tl,dI,0,n⟩) h
end
theorem Aci {qid qg aid g j k:Nat} {q tl:List It} {x:It} (n:Nat) (hn:q.length+tl.length<=n):q.length+1+(psQ ⟨qid,qg,aid,g,q,tl,x,j,k⟩).2.length<=n+1:=by
 unfold psQ
 dsimp only
 split
 .simp only[rh];omega
 .rename_i h
  dsimp only
  rw [List.length_tail]
  have : 0<tl.length:=List.length_pos_iff.2 h
  omega
def Jy (h:HS):List PV := [h.pi,.iface 179 (itV h.x)]
def LC (h:HS) (st:Store):Prop:=h.at st/\(h.q++h.tl).length<1000000000
def Jz (h:HS) (st:Store):PV×Store:=(.tuple [],hpS st.obj st.next h.qid h.qg h.aid (psQ h).1 (G6 h.q h.x) (psQ h).2)
def e_hpush:Nat×Ent:=(103,.x (A9 Jy LC Jz))
theorem Acj (x y:HS) (st:Store) (h:Jy x=Jy y) (hx:LC x st) (hy:LC y st):Jz x st=Jz y st:=by
 simp only[Jy,HS.pi,ix,and_true,rg,true_and,qr,qt]at h
 obtain ⟨a1,a2,a3,a4,a5,a6⟩:=HS.same h.1 hx.1 hy.1
 have a7:x.x=y.x:=qu h.2.1 (by omega)
 simp only[Jz,psQ,a1,a2,a3,a4,a5,a6,a7]
theorem Ack:AM pk e_hpush.1 e_hpush.2:=Cf λh st hx=>by
 obtain ⟨hx,hb⟩:=hx
 have hne:=HS.ne hx
 have hlt:=HS.lt hx
 obtain ⟨qid,qg,aid,g,q,tl,x,j,k⟩:=h
 obtain ⟨ob,M⟩:=st
 dsimp only at hne hlt hb
 obtain ⟨l1,l2⟩:=hlt
 have hx':=hx
 unfold HS.at at hx
 dsimp only at hx
 obtain ⟨h1,h2,h3,h4⟩:=hx
 have hne2:¬qid=aid:=λe=>hne e.symm
 rw [cu]at h3 hb
 simp only[Jy,Jz,HS.p,HS.pi,hpS]
 have hps:∀j k,psQ ⟨qid,qg,aid,g,q,tl,x,j,k⟩=psQ ⟨qid,qg,aid,g,q,tl,x,0,0⟩:=λ_ _=>rfl
 rw [hps j k]
 have hpl:=Aci (qid:=qid) (qg:=qg) (aid:=aid) (g:=g) (x:=x) (j:=0) (k:=0) (q:=q) (tl:=tl) (q.length+tl.length) (cg _)
 have sp:=Acg (ob:=ob) (M:=M) (qid:=qid) (qg:=qg) (aid:=aid) (g:=g) (q:=q) (tl:=tl) x rfl rfl ⟨h1,h2,by dsimp only;rw[cu];omega,h4⟩
 clear hps
 generalize psQ ⟨qid,qg,aid,g,q,tl,x,0,0⟩=P at *
 obtain ⟨g',tl'⟩:=P
 dsimp only at hpl sp ⊢
 have hql:(q ++ [x]).length=q.length+1:=by simp
 have su:=Am1 (ob:=hpO ob qid qg aid g' (q ++ [x]) tl') (M:=M) (j:=q.length) (q:=q ++ [x]) (tl:=tl') (g:=g') (aid:=aid) (qid:=qid) (qg:=qg) ⟨sR l1 l2 hne (by rw[hql];omega),by dsimp only;omega⟩
 have sl:=Yv (aid:=aid) (g:=g') (n:=(q ++ [x]).length) ((q ++ [x])++tl') (st:=⟨hpO ob qid qg aid g' (q ++ [x]) tl',M⟩) (S4 hne rfl (by rw[hql];omega))
 rw [S5]at su
 rw [hql]at sl
 have w1:nm.wrap (((q.length+1:Nat):Int)-1)=(q.length:Int):=by rw[Af (by omega) (by omega)];omega
 have hbox:hpO ob qid qg aid g' (q ++ [x]) tl' qid=some (.arr qg 1 [.ref aid g' 0 (q.length+1)]):=by simp only[hpO,Ab,if_true,hql]
 refine BT AQ (l := [e_qpush,e_qlen,e_hup]) ((Ad Acb (Ad Yu (Ad Am0 Au)))) [] [] 0 Tryz.func103 rfl (by decide +kernel) (N:=12) rfl (by simp) rfl (by kernel_rfl) ?_
 generalize hO:hpO ob qid qg aid g' (q ++ [x]) tl'=O at *
 simp only[↓bdD,bdP,seval,Ao,e_qpush,e_qlen,e_hup,Tryz.f103,ty3,Aih,Re,sp,sl,su,w1,hbox,DX,Do]
 exact ⟨_,rfl,q9⟩
def MN (h:HS):List PV := [h.pi]
def MO (h:HS) (st:Store):PV×Store:=(.iface 179 (itV (Bh h.q)),hpS (Ab st.obj st.next none) (st.next+1) h.qid h.qg h.aid h.g (EZ h.q) ((Ej h.q).drop (h.q.length-1)++h.tl))
def e_hpop:Nat×Ent:=(101,.x (A9 MN GN MO))
theorem Aiu (x y:HS) (st:Store) (h:MN x=MN y) (hx:GN x st) (hy:GN y st):MO x st=MO y st:=by
 simp only[MN,HS.pi,ix,and_true,rg,true_and]at h
 obtain ⟨a1,a2,a3,a4,a5,a6⟩:=HS.same h hx.1 hy.1
 simp only[MO,a1,a2,a3,a4,a5,a6]
theorem Aiv:AM pk e_hpop.1 e_hpop.2:=Cf λh st hx=>by
 obtain ⟨hx,hb⟩:=hx
 have hne:=HS.ne hx
 have hlt:=HS.lt hx
 obtain ⟨qid,qg,aid,g,q,tl,x,j,k⟩:=h
 obtain ⟨ob,M⟩:=st
 dsimp only at hne hlt hb
 obtain ⟨l1,l2⟩:=hlt
 unfold HS.at at hx
 dsimp only at hx
 obtain ⟨h1,h2,h3,h4⟩:=hx
 have hne2:¬qid=aid:=λe=>hne e.symm
 rw [cu]at h3
 simp only[MN,MO,HS.p,HS.pi,hpS]
 obtain ⟨n,hn⟩:∃n,q.length=n+1:=⟨q.length-1,by omega⟩
 have hn1:q.length-1=n:=by omega
 have hsl:(swp q 0 n).length=n+1:=by rw[BJ,hn]
 have hpl:Ej q=DZ (n+1) (swp q 0 n) 0 n:=by unfold Ej;rw[hn1,hn]
 have hpn:(Ej q).length=n+1:=by rw[hpl,Lw,hsl]
 have w1:nm.wrap (((n+1:Nat):Int)-1)=(n:Int):=by rw[Af (by omega) (by omega)];omega
 have sl:=Yv (aid:=aid) (g:=g) (n:=n+1) (q++tl) (st:=⟨ob,M⟩) ⟨h2,by dsimp only;rw[cu];omega,by dsimp only;rw[cu];omega⟩
 have sw:=S0 (u:=0) (v:=n) (q++tl) (ob:=ob) (M:=M) (n:=n+1) (g:=g) (aid:=aid) ⟨⟨h2,by dsimp only;rw[cu];omega,by dsimp only;rw[cu];omega⟩,by dsimp only;omega,by dsimp only;omega⟩
 have e1:Ab ob aid (some (.arr g 2 ((swp (q++tl) 0 n).map itV)))=hpO ob qid qg aid g (swp q 0 n) tl:=by
  conv => lhs;rw[<-Pi h1 h2]
  rw [S1 (by omega) (by omega),S3 hne (by rw[BJ])]
 rw [e1]at sw
 change A9 Fh ES HJ [.ref aid g 0 (n+1),I 0,I (n:Nat)] ⟨ob,M⟩=_ at sw
 have sd:=Ach (ob:=hpO ob qid qg aid g (swp q 0 n) tl) (M:=M) (n:=n) (q:=swp q 0 n) (tl:=tl) (g:=g) (aid:=aid) (qid:=qid) (qg:=qg) ⟨sR l1 l2 hne (by omega),by dsimp only;omega,by dsimp only;omega⟩
 rw [S5,hsl,<-hpl]at sd
 have sp:=Ait (ob:=hpO ob qid qg aid g (Ej q) tl) (M:=M) (q:=Ej q) (tl:=tl) (g:=g) (aid:=aid) (qid:=qid) (qg:=qg) ⟨sR l1 l2 hne (by omega),by dsimp only;omega⟩
 rw [sS (by omega) (by omega),S5,hpn,show n+1-1=n by omega]at sp
 have hbox:hpO ob qid qg aid g (swp q 0 n) tl qid=some (.arr qg 1 [.ref aid g 0 (n+1)]):=by simp only[hpO,Ab,if_true,hsl]
 have hbox2:hpO ob qid qg aid g (Ej q) tl qid=some (.arr qg 1 [.ref aid g 0 (n+1)]):=by simp only[hpO,Ab,if_true,hpn]
 rw [hn]at h1
 have ep:Bh q=(Ej q).getD n dI:=by unfold Bh;rw[hn1]
 have eh:EZ q=(Ej q).take n:=by unfold EZ;rw[hn1]
 rw [ep,eh,hn1]
 refine BT AQ (l := [e_qlen,e_qswap,e_hdown,e_qpop]) ((Ad Yu (Ad SZ (Ad Acf (Ad Ais Au))))) [] [] 0 Tryz.func101 rfl (by decide +kernel) (N:=15) rfl (by simp) rfl (by kernel_rfl) ?_
 generalize hO:hpO ob qid qg aid g (swp q 0 n) tl=O at *
 generalize hO2:hpO ob qid qg aid g (Ej q) tl=O2 at *
 simp only[↓bdD,bdP,seval,Ao,e_qlen,e_qswap,e_hdown,e_qpop,Tryz.f101,ty3,Re,h1,sl,sw,sd,sp,w1,DX,Do]
 exact q9
section
variable {ob:Nat->Option IObj} {M qid qg aid g:Nat} {q tl:List It}
theorem Acl {a b:Int} (x:It) (ha:a=x.1) (hb:b=(x.2:Nat)) (h:LC ⟨qid,qg,aid,g,q,tl,x,0,0⟩ ⟨ob,M⟩):A9 Jy LC Jz [.iface 177 (.ptr qid qg 0 0),.iface 179 (.agg [I a,I b])] ⟨ob,M⟩=some (.tuple [],⟨hpO ob qid qg aid (psQ ⟨qid,qg,aid,g,q,tl,x,0,0⟩).1 (G6 q x) (psQ ⟨qid,qg,aid,g,q,tl,x,0,0⟩).2,M⟩):=by
 subst ha;subst hb
 exact Bc Acj (i:=⟨qid,qg,aid,g,q,tl,x,0,0⟩) h
theorem Aiw (h:GN ⟨qid,qg,aid,g,q,tl,dI,0,0⟩ ⟨ob,M⟩):A9 MN GN MO [.iface 177 (.ptr qid qg 0 0)] ⟨ob,M⟩=some (.iface 179 (itV (Bh q)),⟨hpO (Ab ob M none) qid qg aid g (EZ q) ((Ej q).drop (q.length-1)++tl),M+1⟩) :=
 Bc Aiu (i:=⟨qid,qg,aid,g,q,tl,dI,0,0⟩) h
end
theorem Cu {k:Nat} (h:k<=4611686018427387904):nm.wrap ((k:Int)+1)=((k+1:Nat):Int):=by rw[Af (by omega) (by omega)];omega
def Ch (l:List Nat):List PV:=l.map λk=>I (k:Nat)
section
variable {l:List Nat}
theorem Pj {k:Nat} (h:k<l.length):nth (Ch l) k=I ((l.getD k 0:Nat):Int):=BW (f:=λk:Nat=>I (k:Nat)) 0 h
theorem G8:(Ch l).length=l.length:=ow _
theorem Yw:(Ch l).all kj=true:=by simp[Ch,kj]
end
theorem Pk {l m:List Nat}:(Ch l=Ch m)=(l=m):=Gy (f:=λk:Nat=>I (k:Nat)) λx y h=>by
 simp only[qt,true_and]at h
 omega
def Ha (B:Nat) (out:List (List Nat)):List PV:=(List.range out.length).map λv=>PV.ref (B+5+v) (out.getD v []).length 0 (out.getD v []).length
section
variable {B:Nat} {out:List (List Nat)}
theorem Hb:(Ha B out).length=out.length:=by simp[Ha]
theorem LD {u:Nat} (h:u<out.length):nth (Ha B out) u=PV.ref (B+5+u) (out.getD u []).length 0 (out.getD u []).length:=by
 unfold Ha
 rw [BW (f:=λv=>PV.ref (B+5+v) (out.getD v []).length 0 (out.getD v []).length) 0 (by simpa using h)]
 simp [h]
end
def J4 (B:Nat) (A:List Arc) (out:List (List Nat)) (lv:List Int):PV:=.agg [.ref (B+4) (A.length / 2) 0 A.length,.ref B 1 0 out.length,.ref (B+1) 1 0 lv.length]
structure GrAt (B:Nat) (A:List Arc) (out:List (List Nat)) (lv:List Int) (ob:Nat->Option IObj):Prop where
 o0 : ob B=some (.arr 1 1 (Ha B out))
 o1 : ob (B+1)=some (.arr 1 1 (lv.map (mt .i64)))
 o2 : ob (B+2)=some (.arr 0 3 [J4 B A out lv])
 o4 : ob (B+4)=some (.arr (A.length / 2) 4 (A.map E8))
 o5 : ∀u,u<out.length->ob (B+5+u)=some (.arr (out.getD u []).length 1 (Ch (out.getD u [])))
abbrev gP (B:Nat):PV:=.ptr (B+2) 0 0 0
def GO (A:List Arc) (l:List Nat):List Nat:=l.filter λk=>decide (0<aL A k)
section
variable {A:List Arc} {l:List Nat} {k:Nat}
theorem jD (h:k<l.length):GO A (l.take (k+1))=GO A (l.take k)++if 0<aL A (l.getD k 0)then [l.getD k 0]else []:=by
 unfold GO
 have e:l.getD k 0=l[k]:=by simp[h]
 rw [List.take_succ_eq_append_getElem h,ro,e]
 congr 1
 by_cases c:0<aL A l[k] <;> simp[List.filter,c]
theorem sU:∃r,GO A l=GO A (l.take k)++r:=⟨GO A (l.drop k),by
 unfold GO
 rw [<-ro,ri]⟩
end
theorem Aix {B u:Nat} {A:List Arc} {out:List (List Nat)} {lv:List Int} (hu:u<out.length) (hk:∀k∈out.getD u [],k<A.length) (hl:(out.getD u []).length<=1000000000) :
  NP (λst=>GrAt B A out lv st.obj) pk 0 116 [] [.vptr [gP B] 0,.vptr [I (u:Nat)] 0] ((GO A (out.getD u [])).map λk => [I (k:Nat)]):=by
 refine OU (λst=>GrAt B A out lv st.obj) (l := []) Au [] [] 0 Tryz.func116 rfl (by decide +kernel) rfl (N:=34) rfl (by simp) (λy=>by kernel_rfl) λy H J E st0 hm h0 hstab hG hy=>?_
 obtain ⟨ob0,M0⟩:=st0
 have g0:=hG _ _ h0
 obtain ⟨n,hn⟩:∃n,(out.getD u []).length=n:=⟨_,rfl⟩
 obtain ⟨l,hl'⟩:∃l,out.getD u []=l:=⟨_,rfl⟩
 rw [hl']at hk hn hl ⊢
 have a0:=g0.o0
 have a2:=g0.o2
 have a5:=g0.o5 u hu
 have hno:=LD (B:=B) hu
 rw [hl',hn]at a5 hno
 dsimp only at a0 a2 a5
 unfold J4 at a2
 have hol:=Hb (B:=B) (out:=out)
 rw [hn]at hl
 simp only[↓bdD,bdP,seval,ty3,AR,BM,Ls,Em,a0,a2,a5,hno,hu,hol]
 refine Aw (hm:=hm) [5,14,15,16,17,18,19,20,21,22,23,24,25,26,27,28,29,30,31,32,33] n (λk ρ st'=>ρ 14=I k/\J (GO A (l.take k)).length st') (.refl _) ?_ ?_
 .simp only[↓bdD,bdP]
  exact h0
 rintro k ρ ⟨ob,M⟩ hkn ⟨h14,hJ⟩
 by_cases hlt:k<n
 .have hwk:=Cu (k:=k) (by omega)
  have g1:=hG _ _ hJ
  have b2:=g1.o2
  have b4:=g1.o4
  have b5:=g1.o5 u hu
  rw [hl',hn]at b5
  dsimp only at b2 b4 b5
  unfold J4 at b2
  have hkl:k<l.length:=by omega
  have hnk:=Pj hkl
  have hnl:(Ch l).length=n:=by rw[G8,hn]
  have hmem:l.getD k 0∈l:=by
   have e:l.getD k 0=l[k]:=by simp[hkl]
   rw [e];exact List.getElem_mem _
  have hA:=hk _ hmem
  have hps:=jD (A:=A) hkl
  obtain ⟨r,hr⟩:=sU (A:=A) (l:=l) (k:=k+1)
  have haL:(A.getD (l.getD k 0) dA).2.2.1=aL A (l.getD k 0):=rfl
  generalize hx:l.getD k 0=x at *
  have hnA:=ER hA
  have hAl:(A.map E8).length=A.length:=ow _
  have hxA:(x:Int)<A.length:=by omega
  by_cases c:0<aL A x
  .rw [if_pos c]at hps
   have z1:(List.map (λk:Nat => [I (k:Nat)]) (GO A l))[(GO A (l.take k)).length]?=some [I (x:Nat)]:=by
    rw [bw,hr,hps];simp
   simp only[↓bdD,bdP,seval,ty3,AR,Ls,MG,Em,Iz,h14,hlt,hwk,b2,b4,b5,hnk,hnl,hnA,hAl,hxA,haL,c]
   refine hy _ _ _ _ (by rw[hl'];exact z1) hJ (λst2 h2=>?_) (λst2 h2=>?_)
   .obtain ⟨ob2,M2⟩:=st2
    simp only[↓bdD,bdP]
    rw [hps,cu]
    exact h2
   .simp only[↓bdD,bdP]
    exact .inr h2
  .rw [if_neg c,qq]at hps
   simp only[↓bdD,bdP,seval,ty3,AR,Ls,MG,Em,Iz,h14,hlt,hwk,b2,b4,b5,hnk,hnl,hnA,hAl,hxA,haL,c]
   rw [hps]
   exact hJ
 .have e:k=n:=by omega
  subst e
  rw [<-hn,List.take_length]at hJ
  simp only[↓bdD,bdP,seval,h14]
  exact .inl hJ
end Sim
