/- What functions of this seat compute, by values: contracts (lemmas of the statement's proof, under the conditions that each names). -/
import Derived.Test.YtppljhpecoeakaaQF6
set_option linter.unusedVariables false
set_option linter.unusedSimpArgs false
namespace Sim
structure BS where
 cost : List Int
 known : List Bool
 last : List Int
def L9 (A:List Arc) (st:BS) (k:Nat):BS :=
 if 0<aL A k∧st.known.getD (aF A k) false=true∧(st.known.getD (aT A k) false=false∨st.cost.getD (aF A k) 0+aP A k<st.cost.getD (aT A k) 0)then⟨st.cost.set (aT A k) (st.cost.getD (aF A k) 0+aP A k),st.known.set (aT A k) true,st.last.set (aT A k) k⟩else st
def PE (A:List Arc) (st:BS) (n:Nat):BS:=(List.range n).foldl (L9 A) st
def Ae5 (A:List Arc) (st:BS):BS:=PE A st A.length
def Nv (N s:Nat):BS:=⟨List.replicate N 0,(List.replicate N false).set s true,List.replicate N 0⟩
def Se (A:List Arc) (N s:Nat):Nat→BS
 | 0=>Nv N s
 | n+1=>Ae5 A (Se A N s n)
def PF (A:List Arc) (N s:Nat):BS:=Se A N s N
inductive PL (A:List Arc) (last:List Int) (s:Nat):Nat→List Nat→Prop
 | nil:PL A last s s []
 | cons (v:Nat) (P:List Nat) (hv:v≠s) (hT:aT A (last.getD v 0).toNat=v) (h:PL A last s (aF A (last.getD v 0).toNat) P):PL A last s v ((last.getD v 0).toNat::P)
theorem zC {A:List Arc} {last:List Int} {s v:Nat} {P Q:List Nat} (h:PL A last s v P):PL A last s v Q→P=Q:=by
 induction h generalizing Q with
 | nil =>
  intro g
  cases g with
  | nil=>rfl
  | cons _ _ hv _ _=>exact absurd rfl hv
 | cons v P hv hT h ih =>
  intro g
  cases g with
  | nil=>exact absurd rfl hv
  | cons _ _ _ _ g=>rw[ih g]
def wtP (A:List Arc) (P:List Nat):Int:=(P.map (aP A)).sum
theorem HM {A:List Arc} {k:Nat} {P:List Nat}:wtP A (k::P)=aP A k+wtP A P:=by simp[wtP]
theorem zD {A:List Arc} {P Q:List Nat}:wtP A (P++Q)=wtP A P+wtP A Q:=by simp[wtP]
def Opn (A:List Arc) (P:List Nat):Prop:=∀k∈P,k<A.length∧0<aL A k
structure Gb (A:List Arc) (N s:Nat) (φ:Nat→Int):Prop where
 ar : ∀k,k<A.length→aF A k<N∧aT A k<N
 sN : s<N
 pr : ∀k,k<A.length → -1000000≤aP A k∧aP A k≤1000000
 pot : ∀k,k<A.length→0<aL A k→0≤aP A k+φ (aF A k)-φ (aT A k)
structure BI (A:List Arc) (N s:Nat) (φ:Nat→Int) (st:BS) (c:Nat):Prop where
 lc : st.cost.length=N
 lk : st.known.length=N
 ll : st.last.length=N
 ks : st.known.getD s false=true
 cs : st.cost.getD s 0=0
 par : ∀v,v<N→st.known.getD v false=true→v≠s→∃k:Nat,st.last.getD v 0=(k:Int)∧k<A.length∧0<aL A k∧aT A k=v∧st.known.getD (aF A k) false=true∧st.cost.getD (aF A k) 0+aP A k≤st.cost.getD v 0
 pl : ∀v,v<N→st.known.getD v false=true→∃P,PL A st.last s v P
 wk : ∀v,v<N→st.known.getD v false=true→∃P,IsP A s v P∧Opn A P∧wtP A P=st.cost.getD v 0
 mag : ∀v,v<N→st.known.getD v false=true → -(1000000*(c:Int))≤st.cost.getD v 0∧st.cost.getD v 0≤1000000*(c:Int)
section
variable {A:List Arc} {N s:Nat} {φ:Nat→Int}
theorem fT (G:Gb A N s φ) {st:BS} {c:Nat} (I:BI A N s φ st c) {v:Nat} {P:List Nat} (h:PL A st.last s v P):v<N→st.known.getD v false=true→(∀x∈P.map (aT A),x<N∧st.known.getD x false=true∧st.cost.getD x 0-φ x≤st.cost.getD v 0-φ v)∧st.cost.getD s 0-φ s≤st.cost.getD v 0-φ v∧IsP A s v P∧Opn A P:=by
 induction h with
 | nil=>intro _ _;exact⟨by simp,Int.le_refl _,.nil,by intro k hk;simp at hk⟩
 | cons v P hv hT h ih =>
  intro vN hk
  obtain ⟨k,a1,a2,a3,a4,a5,a6⟩:=I.par v vN hk hv
  rw [a1,Int.toNat_natCast]at h ih
  obtain ⟨i1,i2,i3,i4⟩:=ih (G.ar k a2).1 a5
  have hp:=G.pot k a2 a3
  rw [a4]at hp
  rw [a1,Int.toNat_natCast]
  refine ⟨fun x hx=>?_,by omega,?_,fun j hj=>?_⟩
  ·rw [List.map_cons]at hx
   rcases List.mem_cons.1 hx with g | g
   ·rw [g,a4];exact⟨vN,hk,Int.le_refl _⟩
   ·obtain ⟨j1,j2,j3⟩:=i1 x g
    exact ⟨j1,j2,by omega⟩
  ·rw [←a4];exact .cons k P i3
  ·rcases List.mem_cons.1 hj with g | g
   ·subst g;exact⟨a2,a3⟩
   ·exact i4 j g
theorem zE {last:List Int} {v:Nat} {x:Int} (hl:v<last.length) {u:Nat} {P:List Nat} (h:PL A last s u P):v ∉ P.map (aT A)→PL A (last.set v x) s u P:=by
 induction h with
 | nil=>intro _;exact .nil
 | cons u P hu hT h ih =>
  intro hP
  rw [List.map_cons,List.mem_cons,hT]at hP
  have e1:(last.set v x).getD u 0=last.getD u 0:=by rw[CP hl,if_neg (fun g=>hP (.inl g.symm))]
  have := PL.cons (A:=A) (last:=last.set v x) (s:=s) u P hu (by rw[e1];exact hT) (by rw[e1];exact ih fun g=>hP (.inr g))
  rwa [e1]at this
theorem rQ (G:Gb A N s φ) {st:BS} {c k:Nat} (I:BI A N s φ st c) (hk:k<A.length):BI A N s φ (L9 A st k) (c+1)∧(∀v,v<N→st.known.getD v false=true→(L9 A st k).known.getD v false=true∧(L9 A st k).cost.getD v 0≤st.cost.getD v 0) ∧
  (0 < aL A k→st.known.getD (aF A k) false=true→(L9 A st k).known.getD (aT A k) false=true∧(L9 A st k).cost.getD (aT A k) 0≤st.cost.getD (aF A k) 0+aP A k):=by
 obtain ⟨uN,vN⟩:=G.ar k hk
 have hc1:((c+1:Nat):Int)=(c:Int)+1:=by omega
 by_cases h:0<aL A k∧st.known.getD (aF A k) false=true∧(st.known.getD (aT A k) false=false∨st.cost.getD (aF A k) 0+aP A k<st.cost.getD (aT A k) 0)
 case neg =>
  have e:L9 A st k=st:=by unfold L9;rw[if_neg h]
  rw [e]
  refine ⟨⟨I.lc,I.lk,I.ll,I.ks,I.cs,I.par,I.pl,I.wk,fun v hv g=>?_⟩,fun v hv g=>⟨g,Int.le_refl _⟩,fun h1 h2=>?_⟩
  ·have := I.mag v hv g
   rw [hc1];omega
  ·have h3:¬(st.known.getD (aT A k) false=false∨st.cost.getD (aF A k) 0+aP A k<st.cost.getD (aT A k) 0):=fun g=>h ⟨h1,h2,g⟩
   cases hb:st.known.getD (aT A k) false with
   | false=>exact absurd (.inl hb) h3
   | true=>exact⟨rfl,by have:¬st.cost.getD (aF A k) 0+aP A k<st.cost.getD (aT A k) 0:=fun g=>h3 (.inr g);omega⟩
 obtain ⟨h1,h2,h3⟩:=h
 have e:L9 A st k=⟨st.cost.set (aT A k) (st.cost.getD (aF A k) 0+aP A k),st.known.set (aT A k) true,st.last.set (aT A k) k⟩:=by unfold L9;rw[if_pos ⟨h1,h2,h3⟩]
 have hp:=G.pot k hk h1
 -- v is not on the path of u
 obtain ⟨Pu,hPu⟩:=I.pl _ uN h2
 obtain ⟨k1,k2,k3,k4⟩:=fT G I hPu uN h2
 have hnew:st.known.getD (aT A k) false=true→st.cost.getD (aF A k) 0-φ (aF A k)<st.cost.getD (aT A k) 0-φ (aT A k):=fun g=>by
  rcases h3 with h3 | h3
  ·rw [g]at h3;cases h3
  ·omega
 have hvP:aT A k ∉ Pu.map (aT A):=fun g=>by
  obtain ⟨_,j2,j3⟩:=k1 _ g
  have := hnew j2
  omega
 have hvs:aT A k≠s:=fun g=>by
  have := hnew (by rw[g];exact I.ks)
  rw [g]at this
  omega
 have huv:aF A k≠aT A k:=fun g=>by
  have := hnew (by rw[←g];exact h2)
  rw [g]at this
  omega
 have hco:∀w,(st.cost.set (aT A k) (st.cost.getD (aF A k) 0+aP A k)).getD w 0=if w=aT A k then st.cost.getD (aF A k) 0+aP A k else st.cost.getD w 0:=fun w=>CP (by rw[I.lc];exact vN)
 have hla:∀w,(st.last.set (aT A k) (k:Int)).getD w 0=if w=aT A k then (k:Int)else st.last.getD w 0:=fun w=>CP (by rw[I.ll];exact vN)
 have hkn:∀w,(st.known.set (aT A k) true).getD w false=if w=aT A k then true else st.known.getD w false:=fun w=>EN (by rw[I.lk];exact vN)
 have hkk:∀w,st.known.getD w false=true→(if w=aT A k then true else st.known.getD w false)=true:=fun w g=>by split;rfl;exact g
 have hle:∀w,st.known.getD w false=true→(if w=aT A k then st.cost.getD (aF A k) 0+aP A k else st.cost.getD w 0)≤st.cost.getD w 0:=fun w g=>by
  split
  ·rename_i e;subst e
   rcases h3 with h3 | h3
   ·rw [g]at h3;cases h3
   ·omega
  ·exact Int.le_refl _
 have hPLu:PL A (st.last.set (aT A k) (k:Int)) s (aF A k) Pu:=zE (by rw[I.ll];exact vN) hPu hvP
 have hPLv:PL A (st.last.set (aT A k) (k:Int)) s (aT A k) (k::Pu):=by
  have e1:(st.last.set (aT A k) (k:Int)).getD (aT A k) 0=(k:Int):=by rw[hla,if_pos rfl]
  have := PL.cons (A:=A) (last:=st.last.set (aT A k) (k:Int)) (s:=s) (aT A k) Pu hvs (by rw[e1,Int.toNat_natCast]) (by rw[e1,Int.toNat_natCast];exact hPLu)
  rwa [e1,Int.toNat_natCast]at this
 have hPLx:∀ {x:Nat} {P:List Nat},PL A st.last s x P→∃Q,PL A (st.last.set (aT A k) (k:Int)) s x Q:=fun {x P} g=>by
  induction g with
  | nil=>exact⟨[],.nil⟩
  | cons x P hx hT g ih =>
   by_cases e:x=aT A k
   ·exact ⟨_,by rw[e];exact hPLv⟩
   ·obtain ⟨Q,hQ⟩:=ih
    have e1:(st.last.set (aT A k) (k:Int)).getD x 0=st.last.getD x 0:=by rw[hla,if_neg e]
    refine ⟨_,PL.cons (A:=A) (last:=st.last.set (aT A k) (k:Int)) (s:=s) x Q hx (by rw[e1];exact hT) (by rw[e1];exact hQ)⟩
 rw [e]
 refine ⟨⟨by simpa using I.lc,by simpa using I.lk,by simpa using I.ll,?_,?_,fun v hv g1 g2=>?_,fun v hv g=>?_,fun v hv g=>?_,fun v hv g=>?_⟩,fun v hv g=>?_,fun _ _=>?_⟩ <;> (try dsimp only at *)
 ·rw [hkn];exact hkk s I.ks
 ·rw [hco,if_neg (fun g=>hvs g.symm)];exact I.cs
 ·by_cases e:v=aT A k
  ·subst e
   refine ⟨k,by rw[hla,if_pos rfl],hk,h1,rfl,by rw[hkn];exact hkk _ h2,?_⟩
   rw [hco,hco,if_neg huv,if_pos rfl];exact Int.le_refl _
  ·rw [hkn,if_neg e]at g1
   obtain ⟨j,a1,a2,a3,a4,a5,a6⟩:=I.par v hv g1 g2
   refine ⟨j,by rw[hla,if_neg e];exact a1,a2,a3,a4,by rw[hkn];exact hkk _ a5,?_⟩
   rw [hco,hco,if_neg e]
   have := hle _ a5
   omega
 ·by_cases e:v=aT A k
  ·subst e;exact⟨_,hPLv⟩
  ·rw [hkn,if_neg e]at g
   obtain ⟨P,hP⟩:=I.pl v hv g
   exact hPLx hP
 ·by_cases e:v=aT A k
  ·subst e
   obtain ⟨P,w1,w2,w3⟩:=I.wk _ uN h2
   refine ⟨k::P,.cons k P w1,fun j hj=>?_,?_⟩
   ·rcases List.mem_cons.1 hj with g | g
    ·subst g;exact⟨hk,h1⟩
    ·exact w2 j g
   ·rw [HM,w3,hco,if_pos rfl];omega
  ·rw [hkn,if_neg e]at g
   obtain ⟨P,w1,w2,w3⟩:=I.wk v hv g
   exact ⟨P,w1,w2,by rw[hco,if_neg e];exact w3⟩
 ·rw [hco,hc1]
  by_cases e:v=aT A k
  ·rw [if_pos e]
   have := I.mag _ uN h2
   have := G.pr k hk
   omega
  ·rw [hkn,if_neg e]at g
   rw [if_neg e]
   have := I.mag v hv g
   omega
 ·rw [hkn,hco];exact⟨hkk v g,hle v g⟩
 ·rw [hkn,hco,if_pos rfl,if_pos rfl];exact⟨rfl,Int.le_refl _⟩
theorem Zc {st:BS} {n:Nat}:PE A st (n+1)=L9 A (PE A st n) n:=by
 unfold PE;rw[List.range_succ,List.foldl_append];rfl
theorem PG (G:Gb A N s φ) {st:BS} {c:Nat} (I:BI A N s φ st c):∀n,n≤A.length→BI A N s φ (PE A st n) (c+n)∧(∀v,v<N→st.known.getD v false=true→(PE A st n).known.getD v false=true∧(PE A st n).cost.getD v 0≤st.cost.getD v 0) ∧
  ∀ k,k<n→0<aL A k→st.known.getD (aF A k) false=true→(PE A st n).known.getD (aT A k) false=true∧(PE A st n).cost.getD (aT A k) 0≤st.cost.getD (aF A k) 0+aP A k
 | 0,_=>⟨I,fun v hv g=>⟨g,Int.le_refl _⟩,fun k hk=>absurd hk (by omega)⟩
 | n+1,h=>by
  obtain ⟨h1,h2,h3⟩:=PG G I n (by omega)
  obtain ⟨g1,g2,g3⟩:=rQ G h1 (k:=n) (by omega)
  rw [Zc]
  refine ⟨g1,fun v hv g=>?_,fun k hk a1 a2=>?_⟩
  ·obtain ⟨b1,b2⟩:=h2 v hv g
   obtain ⟨b3,b4⟩:=g2 v hv b1
   exact ⟨b3,by omega⟩
  ·obtain ⟨uN,vN⟩:=G.ar k (by omega)
   by_cases e:k=n
   ·subst e
    obtain ⟨b1,b2⟩:=h2 _ uN a2
    obtain ⟨b3,b4⟩:=g3 a1 b1
    exact ⟨b3,by omega⟩
   ·obtain ⟨b1,b2⟩:=h3 k (by omega) a1 a2
    obtain ⟨b3,b4⟩:=g2 _ vN b1
    exact ⟨b3,by omega⟩
theorem rR (G:Gb A N s φ):BI A N s φ (Nv N s) 0:=by
 have sN:=G.sN
 have hk:∀v,v<N→(Nv N s).known.getD v false=if v=s then true else false:=fun v hv=>by
  unfold Nv;dsimp only
  rw [EN (by simpa using sN)]
  simp [hv]
 have hc:∀v,v<N→(Nv N s).cost.getD v 0=0:=fun v hv=>by unfold Nv;simp[hv]
 have hv:∀v,v<N→(Nv N s).known.getD v false=true→v=s:=fun v hv g=>by
  rw [hk v hv]at g
  by_cases e:v=s
  ·exact e
  ·rw [if_neg e]at g;cases g
 refine ⟨by simp[Nv],by simp[Nv],by simp[Nv],by rw[hk s sN,if_pos rfl],hc s sN,fun v hv' g1 g2=>absurd (hv v hv' g1) g2,fun v hv' g=>?_,fun v hv' g=>?_,fun v hv' g=>?_⟩
 ·rw [hv v hv' g];exact⟨[],.nil⟩
 ·rw [hc v hv',hv v hv' g];exact⟨[],.nil,by intro k hk;simp at hk,rfl⟩
 ·rw [hc v hv'];simp
theorem K7 (G:Gb A N s φ):∀n,BI A N s φ (Se A N s n) (n*A.length)
 | 0=>by rw[Nat.zero_mul];exact rR G
 | n+1=>by
  have :=(PG G (K7 G n) A.length (Nat.le_refl _)).1
  rw [Nat.succ_mul];exact this
theorem Adu (G:Gb A N s φ) {v:Nat} {P:List Nat} (h:IsP A s v P):∀n,P.length≤n→Opn A P→v<N→(Se A N s n).known.getD v false=true∧(Se A N s n).cost.getD v 0≤wtP A P:=by
 induction h with
 | nil =>
  intro n _ _ _
  have := K7 G n
  rw [this.cs]
  exact ⟨this.ks,by simp[wtP]⟩
 | cons k P h ih =>
  intro n hn ho vN
  cases n with
  | zero=>simp at hn
  | succ n =>
   rw [List.length_cons]at hn
   obtain ⟨hk,hl⟩:=ho k (by simp)
   obtain ⟨i1,i2⟩:=ih n (by omega) (fun j hj=>ho j (by simp[hj])) (G.ar k hk).1
   obtain ⟨g1,g2⟩:=(PG G (K7 G n) A.length (Nat.le_refl _)).2.2 k hk hl i1
   refine ⟨g1,?_⟩
   rw [HM]
   have : (Se A N s (n+1)).cost.getD (aT A k) 0≤(Se A N s n).cost.getD (aF A k) 0+aP A k:=g2
   omega
theorem Zd {v x:Nat} {P:List Nat} (h:IsP A s v P):x∈P.map (aT A)→∃X Y,P=X++Y∧IsP A s x Y:=by
 induction h with
 | nil=>intro hx;simp at hx
 | cons k P h ih =>
  intro hx
  rw [List.map_cons]at hx
  by_cases e:x=aT A k
  ·exact ⟨[],k::P,rfl,by rw[e];exact .cons k P h⟩
  ·rcases List.mem_cons.1 hx with g | g
   ·exact absurd g e
   ·obtain ⟨X,Y,h1,h2⟩:=ih g
    exact ⟨k::X,Y,by rw[h1];rfl,h2⟩
theorem fU {v x:Nat} {Y:List Nat} (h1:IsP A s v Y) (h2:IsP A s x Y):v=x:=by
 cases h1 with
 | nil=>cases h2;rfl
 | cons k P _=>cases h2;rfl
theorem Va (G:Gb A N s φ):∀ {X:List Nat} {v x:Nat} {Y:List Nat},IsP A s v (X++Y)→IsP A s x Y→Opn A X→φ v-φ x≤wtP A X
 | [],v,x,Y,h1,h2,_=>by
  rw [fU h1 h2];simp[wtP]
 | k::X,v,x,Y,h1,h2,ho=>by
  cases h1 with
  | cons _ _ h1 =>
   obtain ⟨hk,hl⟩:=ho k (by simp)
   have := Va G h1 h2 fun j hj=>ho j (by simp[hj])
   have hp:=G.pot k hk hl
   rw [HM];omega
theorem rT (G:Gb A N s φ) {v:Nat} {P:List Nat} (h:IsP A s v P):Opn A P→∃Q,IsP A s v Q∧Opn A Q∧(s::Q.map (aT A)).Nodup∧wtP A Q≤wtP A P:=by
 induction h with
 | nil=>intro _;exact⟨[],.nil,by intro k hk;simp at hk,by simp,Int.le_refl _⟩
 | cons k P h ih =>
  intro ho
  obtain ⟨hk,hl⟩:=ho k (by simp)
  obtain ⟨Q,q1,q2,q3,q4⟩:=ih fun j hj=>ho j (by simp[hj])
  have hp:=G.pot k hk hl
  rw [HM]
  by_cases e:aT A k∈Q.map (aT A)
  ·obtain ⟨X,Y,e1,e2⟩:=Zd q1 e
   subst e1
   have h1:=Va G q1 e2 fun j hj=>q2 j (List.mem_append.2 (.inl hj))
   rw [zD]at q4
   refine ⟨Y,e2,fun j hj=>q2 j (List.mem_append.2 (.inr hj)),?_,by omega⟩
   rw [List.map_append]at q3
   rw [List.nodup_cons]at q3 ⊢
   exact ⟨fun g=>q3.1 (List.mem_append.2 (.inr g)),(List.nodup_append.1 q3.2).2.1⟩
  ·by_cases es:aT A k=s
   ·have h1:=Va G (X:=Q) (Y := []) (x:=s) (by rw[List.append_nil];exact q1) .nil q2
    refine ⟨[],by rw[es];exact .nil,by intro j hj;simp at hj,by simp,?_⟩
    rw [es]at hp
    have : wtP A []=0:=rfl
    omega
   ·refine ⟨k::Q,.cons k Q q1,fun j hj=>?_,?_,by rw[HM];omega⟩
    ·rcases List.mem_cons.1 hj with g | g
     ·subst g;exact⟨hk,hl⟩
     ·exact q2 j g
    ·rw [List.map_cons]
     rw [List.nodup_cons]at q3 ⊢
     rw [List.nodup_cons]
     refine ⟨fun g=>?_,e,q3.2⟩
     rcases List.mem_cons.1 g with g | g
     ·exact es g.symm
     ·exact q3.1 g
theorem CF:∀(L:Nat) (l:List Nat),l.Nodup→(∀x∈l,x<L)→l.length≤L
 | 0,l,_,h=>by
  cases l with
  | nil=>exact Nat.le_refl _
  | cons a l=>exact absurd (h a (by simp)) (by omega)
 | L+1,l,hn,h=>by
  by_cases hm:L∈l
  ·have h1:=CF L (l.erase L) (hn.erase L) (fun x hx=>by
    have h2:=(hn.mem_erase_iff).1 hx
    have := h x h2.2
    omega)
   rw [List.length_erase_of_mem hm]at h1
   omega
  ·have := CF L l hn (fun x hx=>by
    have h1:=h x hx
    have : x≠L:=fun e=>hm (e▸hx)
    omega)
   omega
theorem rU (G:Gb A N s φ) {v:Nat} {P:List Nat} (h:IsP A s v P) (ho:Opn A P) (vN:v<N):(PF A N s).known.getD v false=true∧(PF A N s).cost.getD v 0≤wtP A P:=by
 obtain ⟨Q,q1,q2,q3,q4⟩:=rT G h ho
 have hl:(s::Q.map (aT A)).length≤N:=CF N _ q3 fun x hx=>by
  rcases List.mem_cons.1 hx with g | g
  ·rw [g];exact G.sN
  ·obtain ⟨k,hk,rfl⟩:=List.mem_map.1 g
   exact (G.ar k (q2 k hk).1).2
 rw [List.length_cons,List.length_map]at hl
 obtain ⟨h1,h2⟩:=Adu G q1 N (by omega) q2 vN
 exact ⟨h1,Int.le_trans h2 q4⟩
structure FB (A:List Arc) (N s:Nat) (st:BS):Prop where
 known : ∀v,v<N→(st.known.getD v false=true↔Rch A s v)
 clo : ∀k,k<A.length→0<aL A k→Rch A s (aF A k)→st.cost.getD (aT A k) 0≤st.cost.getD (aF A k) 0+aP A k
 cs : st.cost.getD s 0=0
 path : ∀v,v<N→Rch A s v→∃P,PL A st.last s v P∧IsP A s v P∧(P.map (aT A)).Nodup∧∀k∈P,k<A.length∧0<aL A k∧Rch A s (aF A k)∧Rch A s (aT A k)∧aP A k+st.cost.getD (aF A k) 0-st.cost.getD (aT A k) 0=0
theorem rV {v:Nat} (h:Rch A s v):∃P,IsP A s v P∧Opn A P:=by
 induction h with
 | src=>exact⟨[],.nil,by intro k hk;simp at hk⟩
 | arc k hk hl h ih =>
  obtain ⟨P,h1,h2⟩:=ih
  refine ⟨k::P,.cons k P h1,fun j hj=>?_⟩
  rcases List.mem_cons.1 hj with g | g
  ·subst g;exact⟨hk,hl⟩
  ·exact h2 j g
theorem rW {v:Nat} {P:List Nat} (h:IsP A s v P):Opn A P→Rch A s v:=by
 induction h with
 | nil=>intro _;exact .src
 | cons k P h ih =>
  intro ho
  obtain ⟨hk,hl⟩:=ho k (by simp)
  exact .arc k hk hl (ih fun j hj=>ho j (by simp[hj]))
theorem rX (G:Gb A N s φ):FB A N s (PF A N s):=by
 have I:=K7 G N
 have hst:Se A N s N=PF A N s:=rfl
 rw [hst]at I
 have hle:=fun {v:Nat} {P:List Nat} h ho vN=>rU G (v:=v) (P:=P) h ho vN
 generalize PF A N s=st at *
 have h1:∀v,v<N→(st.known.getD v false=true↔Rch A s v):=fun v hv=>by
  constructor
  ·intro g
   obtain ⟨P,w1,w2,_⟩:=I.wk v hv g
   exact rW w1 w2
  ·intro g
   obtain ⟨P,p1,p2⟩:=rV g
   exact (hle p1 p2 hv).1
 have h2:∀k,k<A.length→0<aL A k→Rch A s (aF A k)→st.cost.getD (aT A k) 0≤st.cost.getD (aF A k) 0+aP A k:=fun k hk hl hr=>by
  obtain ⟨uN,vN⟩:=G.ar k hk
  obtain ⟨P,w1,w2,w3⟩:=I.wk _ uN ((h1 _ uN).2 hr)
  have :=(hle (.cons k P w1) (fun j hj=>by
   rcases List.mem_cons.1 hj with g | g
   ·subst g;exact⟨hk,hl⟩
   ·exact w2 j g) vN).2
  rw [HM,w3]at this
  omega
 refine ⟨h1,h2,I.cs,fun v hv hr=>?_⟩
 obtain ⟨P,hP⟩:=I.pl v hv ((h1 v hv).2 hr)
 obtain ⟨_,_,k3,k4⟩:=fT G I hP hv ((h1 v hv).2 hr)
 have htight:∀ {w:Nat} {Q:List Nat},PL A st.last s w Q→w<N→Rch A s w→∀k∈Q,k<A.length∧0<aL A k∧Rch A s (aF A k)∧Rch A s (aT A k)∧aP A k+st.cost.getD (aF A k) 0-st.cost.getD (aT A k) 0=0:=fun {w Q} hQ=>by
  induction hQ with
  | nil=>intro _ _ k hk;simp at hk
  | cons w Q hw hT hQ ih =>
   intro wN wr k hk
   obtain ⟨j,a1,a2,a3,a4,a5,a6⟩:=I.par w wN ((h1 w wN).2 wr) hw
   rw [a1,Int.toNat_natCast]at hk ih
   have hjr:=(h1 _ (G.ar j a2).1).1 a5
   rcases List.mem_cons.1 hk with g | g
   ·subst g
    have := h2 k a2 a3 hjr
    rw [a4]at this
    exact ⟨a2,a3,hjr,by rw[a4];exact wr,by rw[a4];omega⟩
   ·exact ih (G.ar j a2).1 hjr k g
 have hnd:∀ {w:Nat} {Q:List Nat},PL A st.last s w Q→(Q.map (aT A)).Nodup:=fun {w Q} hQ=>by
  induction hQ with
  | nil=>simp
  | cons w Q hw hT hQ ih =>
   rw [List.map_cons,List.nodup_cons,hT]
   refine ⟨fun g=>?_,ih⟩
   -- w would come again
   have key:∀ {x:Nat} {R:List Nat},PL A st.last s x R→w∈R.map (aT A)→∃Y,PL A st.last s w Y∧Y.length≤R.length:=fun {x R} hR=>by
    induction hR with
    | nil=>intro g;simp at g
    | cons x R hx hT' hR ih' =>
     intro g
     rw [List.map_cons,hT']at g
     by_cases e:w=x
     ·subst e
      exact ⟨_,.cons w R hx hT' hR,Nat.le_refl _⟩
     ·rcases List.mem_cons.1 g with g | g
      ·exact absurd g e
      ·obtain ⟨Y,y1,y2⟩:=ih' g
       exact ⟨Y,y1,by rw[List.length_cons];omega⟩
   obtain ⟨Y,y1,y2⟩:=key hQ g
   have := zC y1 (.cons w Q hw hT hQ)
   rw [this,List.length_cons]at y2
   omega
 exact ⟨P,hP,k3,hnd hP,htight hP hv hr⟩
end
end Sim
