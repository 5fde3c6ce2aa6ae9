/- What functions of this seat compute, by values: contracts (lemmas of the statement's proof, under the conditions that each names). -/
import Derived.Test.YtppljhpecoeakaaQF6
import Derived.Test.YtppljhpecoeakaaQBD
set_option linter.unusedVariables false
set_option linter.unusedSimpArgs false
namespace Sim
structure BS where
 cost : List Int
 known : List Bool
 last : List Int
def Mz (A:List Arc) (st:BS) (k:Nat):BS :=
 if 0<aL A k∧st.known.getD (aF A k) false=true∧(st.known.getD (aT A k) false=false∨st.cost.getD (aF A k) 0+aP A k<st.cost.getD (aT A k) 0)then⟨st.cost.set (aT A k) (st.cost.getD (aF A k) 0+aP A k),st.known.set (aT A k) true,st.last.set (aT A k) k⟩else st
def Qs (A:List Arc) (st:BS) (n:Nat):BS:=(List.range n).foldl (Mz A) st
def Aiz (A:List Arc) (st:BS):BS:=Qs A st A.length
def NY (N s:Nat):BS:=⟨List.replicate N 0,(List.replicate N false).set s true,List.replicate N 0⟩
def SX (A:List Arc) (N s:Nat):Nat→BS
 | 0=>NY N s
 | n+1=>Aiz A (SX A N s n)
def Qt (A:List Arc) (N s:Nat):BS:=SX A N s N
inductive PL (A:List Arc) (last:List Int) (s:Nat):Nat→List Nat→Prop
 | nil:PL A last s s []
 | cons (v:Nat) (P:List Nat) (hv:v≠s) (hT:aT A (last.getD v 0).toNat=v) (h:PL A last s (aF A (last.getD v 0).toNat) P):PL A last s v ((last.getD v 0).toNat::P)
theorem Ada {A:List Arc} {last:List Int} {s v:Nat} {P Q:List Nat} (h:PL A last s v P):PL A last s v Q→P=Q:=by
 induction h generalizing Q with
 | nil =>
  intro g
  cases g with
  | nil=>rfl
  | cons _ _ hv _ _=>exact absurd rfl hv
 | cons v P hv hT h ih =>
  intro g
  cases g with
  | nil=>exact absurd rfl hv
  | cons _ _ _ _ g=>rw[ih g]
def wtP (A:List Arc) (P:List Nat):Int:=(P.map (aP A)).sum
theorem H4 {A:List Arc} {k:Nat} {P:List Nat}:wtP A (k::P)=aP A k+wtP A P:=by simp[wtP]
theorem Adb {A:List Arc} {P Q:List Nat}:wtP A (P++Q)=wtP A P+wtP A Q:=by simp[wtP]
def Opn (A:List Arc) (P:List Nat):Prop:=∀k∈P,k<A.length∧0<aL A k
structure Gb (A:List Arc) (N s:Nat) (φ:Nat→Int):Prop where
 ar : ∀k,k<A.length→aF A k<N∧aT A k<N
 sN : s<N
 pr : ∀k,k<A.length → -1000000≤aP A k∧aP A k≤1000000
 pot : ∀k,k<A.length→0<aL A k→0≤aP A k+φ (aF A k)-φ (aT A k)
structure BI (A:List Arc) (N s:Nat) (φ:Nat→Int) (st:BS) (c:Nat):Prop where
 lc : st.cost.length=N
 lk : st.known.length=N
 ll : st.last.length=N
 ks : st.known.getD s false=true
 cs : st.cost.getD s 0=0
 par : ∀v,v<N→st.known.getD v false=true→v≠s→∃k:Nat,st.last.getD v 0=(k:Int)∧k<A.length∧0<aL A k∧aT A k=v∧st.known.getD (aF A k) false=true∧st.cost.getD (aF A k) 0+aP A k≤st.cost.getD v 0
 pl : ∀v,v<N→st.known.getD v false=true→∃P,PL A st.last s v P
 wk : ∀v,v<N→st.known.getD v false=true→∃P,IsP A s v P∧Opn A P∧wtP A P=st.cost.getD v 0
 mag : ∀v,v<N→st.known.getD v false=true → -(1000000*(c:Int))≤st.cost.getD v 0∧st.cost.getD v 0≤1000000*(c:Int)
section
variable {A:List Arc} {N s:Nat} {φ:Nat→Int}
theorem kO (G:Gb A N s φ) {st:BS} {c:Nat} (I:BI A N s φ st c) {v:Nat} {P:List Nat} (h:PL A st.last s v P):v<N→st.known.getD v false=true→(∀x∈P.map (aT A),x<N∧st.known.getD x false=true∧st.cost.getD x 0-φ x≤st.cost.getD v 0-φ v)∧st.cost.getD s 0-φ s≤st.cost.getD v 0-φ v∧IsP A s v P∧Opn A P:=by
 induction h with
 | nil=>intro _ _;exact⟨by simp,Int.le_refl _,.nil,by intro k hk;simp at hk⟩
 | cons v P hv hT h ih =>
  intro vN hk
  obtain ⟨k,a1,a2,a3,a4,a5,a6⟩:=I.par v vN hk hv
  rw [a1,Int.toNat_natCast]at h ih
  obtain ⟨i1,i2,i3,i4⟩:=ih (G.ar k a2).1 a5
  have hp:=G.pot k a2 a3
  rw [a4]at hp
  rw [a1,Int.toNat_natCast]
  refine ⟨fun x hx=>?_,by omega,?_,fun j hj=>?_⟩
  ·rw [List.map_cons]at hx
   rcases List.mem_cons.1 hx with g | g
   ·rw [g,a4];exact⟨vN,hk,Int.le_refl _⟩
   ·obtain ⟨j1,j2,j3⟩:=i1 x g
    exact ⟨j1,j2,by omega⟩
  ·rw [←a4];exact .cons k P i3
  ·rcases List.mem_cons.1 hj with g | g
   ·subst g;exact⟨a2,a3⟩
   ·exact i4 j g
theorem Adc {last:List Int} {v:Nat} {x:Int} (hl:v<last.length) {u:Nat} {P:List Nat} (h:PL A last s u P):v ∉ P.map (aT A)→PL A (last.set v x) s u P:=by
 induction h with
 | nil=>intro _;exact .nil
 | cons u P hu hT h ih =>
  intro hP
  rw [List.map_cons,List.mem_cons,hT]at hP
  have e1:(last.set v x).getD u 0=last.getD u 0:=by rw[C7 hl,if_neg (fun g=>hP (.inl g.symm))]
  have := PL.cons (A:=A) (last:=last.set v x) (s:=s) u P hu (by rw[e1];exact hT) (by rw[e1];exact ih fun g=>hP (.inr g))
  rwa [e1]at this
theorem wM (G:Gb A N s φ) {st:BS} {c k:Nat} (I:BI A N s φ st c) (hk:k<A.length):BI A N s φ (Mz A st k) (c+1)∧(∀v,v<N→st.known.getD v false=true→(Mz A st k).known.getD v false=true∧(Mz A st k).cost.getD v 0≤st.cost.getD v 0) ∧
  (0 < aL A k→st.known.getD (aF A k) false=true→(Mz A st k).known.getD (aT A k) false=true∧(Mz A st k).cost.getD (aT A k) 0≤st.cost.getD (aF A k) 0+aP A k):=by
 obtain ⟨uN,vN⟩:=G.ar k hk
 have hc1:((c+1:Nat):Int)=(c:Int)+1:=by omega
 by_cases h:0<aL A k∧st.known.getD (aF A k) false=true∧(st.known.getD (aT A k) false=false∨st.cost.getD (aF A k) 0+aP A k<st.cost.getD (aT A k) 0)
 case neg =>
  have e:Mz A st k=st:=by unfold Mz;rw[if_neg h]
  rw [e]
  refine ⟨⟨I.lc,I.lk,I.ll,I.ks,I.cs,I.par,I.pl,I.wk,fun v hv g=>?_⟩,fun v hv g=>⟨g,Int.le_refl _⟩,fun h1 h2=>?_⟩
  ·have := I.mag v hv g
   rw [hc1];omega
  ·have h3:¬(st.known.getD (aT A k) false=false∨st.cost.getD (aF A k) 0+aP A k<st.cost.getD (aT A k) 0):=fun g=>h ⟨h1,h2,g⟩
   cases hb:st.known.getD (aT A k) false with
   | false=>exact absurd (.inl hb) h3
   | true=>exact⟨rfl,by have:¬st.cost.getD (aF A k) 0+aP A k<st.cost.getD (aT A k) 0:=fun g=>h3 (.inr g);omega⟩
 obtain ⟨h1,h2,h3⟩:=h
 have e:Mz A st k=⟨st.cost.set (aT A k) (st.cost.getD (aF A k) 0+aP A k),st.known.set (aT A k) true,st.last.set (aT A k) k⟩:=by unfold Mz;rw[if_pos ⟨h1,h2,h3⟩]
 have hp:=G.pot k hk h1
 -- v is not on the path of u
 obtain ⟨Pu,hPu⟩:=I.pl _ uN h2
 obtain ⟨k1,k2,k3,k4⟩:=kO G I hPu uN h2
 have hnew:st.known.getD (aT A k) false=true→st.cost.getD (aF A k) 0-φ (aF A k)<st.cost.getD (aT A k) 0-φ (aT A k):=fun g=>by
  rcases h3 with h3 | h3
  ·rw [g]at h3;cases h3
  ·omega
 have hvP:aT A k ∉ Pu.map (aT A):=fun g=>by
  obtain ⟨_,j2,j3⟩:=k1 _ g
  have := hnew j2
  omega
 have hvs:aT A k≠s:=fun g=>by
  have := hnew (by rw[g];exact I.ks)
  rw [g]at this
  omega
 have huv:aF A k≠aT A k:=fun g=>by
  have := hnew (by rw[←g];exact h2)
  rw [g]at this
  omega
 have hco:∀w,(st.cost.set (aT A k) (st.cost.getD (aF A k) 0+aP A k)).getD w 0=if w=aT A k then st.cost.getD (aF A k) 0+aP A k else st.cost.getD w 0:=fun w=>C7 (by rw[I.lc];exact vN)
 have hla:∀w,(st.last.set (aT A k) (k:Int)).getD w 0=if w=aT A k then (k:Int)else st.last.getD w 0:=fun w=>C7 (by rw[I.ll];exact vN)
 have hkn:∀w,(st.known.set (aT A k) true).getD w false=if w=aT A k then true else st.known.getD w false:=fun w=>Fc (by rw[I.lk];exact vN)
 have hkk:∀w,st.known.getD w false=true→(if w=aT A k then true else st.known.getD w false)=true:=fun w g=>by split;rfl;exact g
 have hle:∀w,st.known.getD w false=true→(if w=aT A k then st.cost.getD (aF A k) 0+aP A k else st.cost.getD w 0)≤st.cost.getD w 0:=fun w g=>by
  split
  ·rename_i e;subst e
   rcases h3 with h3 | h3
   ·rw [g]at h3;cases h3
   ·omega
  ·exact Int.le_refl _
 have hPLu:PL A (st.last.set (aT A k) (k:Int)) s (aF A k) Pu:=Adc (by rw[I.ll];exact vN) hPu hvP
 have hPLv:PL A (st.last.set (aT A k) (k:Int)) s (aT A k) (k::Pu):=by
  have e1:(st.last.set (aT A k) (k:Int)).getD (aT A k) 0=(k:Int):=by rw[hla,if_pos rfl]
  have := PL.cons (A:=A) (last:=st.last.set (aT A k) (k:Int)) (s:=s) (aT A k) Pu hvs (by rw[e1,Int.toNat_natCast]) (by rw[e1,Int.toNat_natCast];exact hPLu)
  rwa [e1,Int.toNat_natCast]at this
 have hPLx:∀ {x:Nat} {P:List Nat},PL A st.last s x P→∃Q,PL A (st.last.set (aT A k) (k:Int)) s x Q:=fun {x P} g=>by
  induction g with
  | nil=>exact⟨[],.nil⟩
  | cons x P hx hT g ih =>
   by_cases e:x=aT A k
   ·exact ⟨_,by rw[e];exact hPLv⟩
   ·obtain ⟨Q,hQ⟩:=ih
    have e1:(st.last.set (aT A k) (k:Int)).getD x 0=st.last.getD x 0:=by rw[hla,if_neg e]
    refine ⟨_,PL.cons (A:=A) (last:=st.last.set (aT A k) (k:Int)) (s:=s) x Q hx (by rw[e1];exact hT) (by rw[e1];exact hQ)⟩
 rw [e]
 refine ⟨⟨by simpa using I.lc,by simpa using I.lk,by simpa using I.ll,?_,?_,fun v hv g1 g2=>?_,fun v hv g=>?_,fun v hv g=>?_,fun v hv g=>?_⟩,fun v hv g=>?_,fun _ _=>?_⟩ <;> (try dsimp only at *)
 ·rw [hkn];exact hkk s I.ks
 ·rw [hco,if_neg (fun g=>hvs g.symm)];exact I.cs
 ·by_cases e:v=aT A k
  ·subst e
   refine ⟨k,by rw[hla,if_pos rfl],hk,h1,rfl,by rw[hkn];exact hkk _ h2,?_⟩
   rw [hco,hco,if_neg huv,if_pos rfl];exact Int.le_refl _
  ·rw [hkn,if_neg e]at g1
   obtain ⟨j,a1,a2,a3,a4,a5,a6⟩:=I.par v hv g1 g2
   refine ⟨j,by rw[hla,if_neg e];exact a1,a2,a3,a4,by rw[hkn];exact hkk _ a5,?_⟩
   rw [hco,hco,if_neg e]
   have := hle _ a5
   omega
 ·by_cases e:v=aT A k
  ·subst e;exact⟨_,hPLv⟩
  ·rw [hkn,if_neg e]at g
   obtain ⟨P,hP⟩:=I.pl v hv g
   exact hPLx hP
 ·by_cases e:v=aT A k
  ·subst e
   obtain ⟨P,w1,w2,w3⟩:=I.wk _ uN h2
   refine ⟨k::P,.cons k P w1,fun j hj=>?_,?_⟩
   ·rcases List.mem_cons.1 hj with g | g
    ·subst g;exact⟨hk,h1⟩
    ·exact w2 j g
   ·rw [H4,w3,hco,if_pos rfl];omega
  ·rw [hkn,if_neg e]at g
   obtain ⟨P,w1,w2,w3⟩:=I.wk v hv g
   exact ⟨P,w1,w2,by rw[hco,if_neg e];exact w3⟩
 ·rw [hco,hc1]
  by_cases e:v=aT A k
  ·rw [if_pos e]
   have := I.mag _ uN h2
   have := G.pr k hk
   omega
  ·rw [hkn,if_neg e]at g
   rw [if_neg e]
   have := I.mag v hv g
   omega
 ·rw [hkn,hco];exact⟨hkk v g,hle v g⟩
 ·rw [hkn,hco,if_pos rfl,if_pos rfl];exact⟨rfl,Int.le_refl _⟩
theorem aS {st:BS} {n:Nat}:Qs A st (n+1)=Mz A (Qs A st n) n:=by
 unfold Qs;rw[List.range_succ,List.foldl_append];rfl
theorem Qu (G:Gb A N s φ) {st:BS} {c:Nat} (I:BI A N s φ st c):∀n,n≤A.length→BI A N s φ (Qs A st n) (c+n)∧(∀v,v<N→st.known.getD v false=true→(Qs A st n).known.getD v false=true∧(Qs A st n).cost.getD v 0≤st.cost.getD v 0) ∧
  ∀ k,k<n→0<aL A k→st.known.getD (aF A k) false=true→(Qs A st n).known.getD (aT A k) false=true∧(Qs A st n).cost.getD (aT A k) 0≤st.cost.getD (aF A k) 0+aP A k
 | 0,_=>⟨I,fun v hv g=>⟨g,Int.le_refl _⟩,fun k hk=>absurd hk (by omega)⟩
 | n+1,h=>by
  obtain ⟨h1,h2,h3⟩:=Qu G I n (by omega)
  obtain ⟨g1,g2,g3⟩:=wM G h1 (k:=n) (by omega)
  rw [aS]
  refine ⟨g1,fun v hv g=>?_,fun k hk a1 a2=>?_⟩
  ·obtain ⟨b1,b2⟩:=h2 v hv g
   obtain ⟨b3,b4⟩:=g2 v hv b1
   exact ⟨b3,by omega⟩
  ·obtain ⟨uN,vN⟩:=G.ar k (by omega)
   by_cases e:k=n
   ·subst e
    obtain ⟨b1,b2⟩:=h2 _ uN a2
    obtain ⟨b3,b4⟩:=g3 a1 b1
    exact ⟨b3,by omega⟩
   ·obtain ⟨b1,b2⟩:=h3 k (by omega) a1 a2
    obtain ⟨b3,b4⟩:=g2 _ vN b1
    exact ⟨b3,by omega⟩
theorem wO (G:Gb A N s φ):BI A N s φ (NY N s) 0:=by
 have sN:=G.sN
 have hk:∀v,v<N→(NY N s).known.getD v false=if v=s then true else false:=fun v hv=>by
  unfold NY;dsimp only
  rw [Fc (by simpa using sN)]
  simp [hv]
 have hc:∀v,v<N→(NY N s).cost.getD v 0=0:=fun v hv=>by unfold NY;simp[hv]
 have hv:∀v,v<N→(NY N s).known.getD v false=true→v=s:=fun v hv g=>by
  rw [hk v hv]at g
  by_cases e:v=s
  ·exact e
  ·rw [if_neg e]at g;cases g
 refine ⟨by simp[NY],by simp[NY],by simp[NY],by rw[hk s sN,if_pos rfl],hc s sN,fun v hv' g1 g2=>absurd (hv v hv' g1) g2,fun v hv' g=>?_,fun v hv' g=>?_,fun v hv' g=>?_⟩
 ·rw [hv v hv' g];exact⟨[],.nil⟩
 ·rw [hc v hv',hv v hv' g];exact⟨[],.nil,by intro k hk;simp at hk,rfl⟩
 ·rw [hc v hv'];simp
theorem Lz (G:Gb A N s φ):∀n,BI A N s φ (SX A N s n) (n*A.length)
 | 0=>by rw[Nat.zero_mul];exact wO G
 | n+1=>by
  have :=(Qu G (Lz G n) A.length (Nat.le_refl _)).1
  rw [Nat.succ_mul];exact this
theorem Ahp (G:Gb A N s φ) {v:Nat} {P:List Nat} (h:IsP A s v P):∀n,P.length≤n→Opn A P→v<N→(SX A N s n).known.getD v false=true∧(SX A N s n).cost.getD v 0≤wtP A P:=by
 induction h with
 | nil =>
  intro n _ _ _
  have := Lz G n
  rw [this.cs]
  exact ⟨this.ks,by simp[wtP]⟩
 | cons k P h ih =>
  intro n hn ho vN
  cases n with
  | zero=>simp at hn
  | succ n =>
   rw [List.length_cons]at hn
   obtain ⟨hk,hl⟩:=ho k (by simp)
   obtain ⟨i1,i2⟩:=ih n (by omega) (fun j hj=>ho j (by simp[hj])) (G.ar k hk).1
   obtain ⟨g1,g2⟩:=(Qu G (Lz G n) A.length (Nat.le_refl _)).2.2 k hk hl i1
   refine ⟨g1,?_⟩
   rw [H4]
   have : (SX A N s (n+1)).cost.getD (aT A k) 0≤(SX A N s n).cost.getD (aF A k) 0+aP A k:=g2
   omega
theorem aU {v x:Nat} {P:List Nat} (h:IsP A s v P):x∈P.map (aT A)→∃X Y,P=X++Y∧IsP A s x Y:=by
 induction h with
 | nil=>intro hx;simp at hx
 | cons k P h ih =>
  intro hx
  rw [List.map_cons]at hx
  by_cases e:x=aT A k
  ·exact ⟨[],k::P,rfl,by rw[e];exact .cons k P h⟩
  ·rcases List.mem_cons.1 hx with g | g
   ·exact absurd g e
   ·obtain ⟨X,Y,h1,h2⟩:=ih g
    exact ⟨k::X,Y,by rw[h1];rfl,h2⟩
theorem kP {v x:Nat} {Y:List Nat} (h1:IsP A s v Y) (h2:IsP A s x Y):v=x:=by
 cases h1 with
 | nil=>cases h2;rfl
 | cons k P _=>cases h2;rfl
theorem Wf (G:Gb A N s φ):∀ {X:List Nat} {v x:Nat} {Y:List Nat},IsP A s v (X++Y)→IsP A s x Y→Opn A X→φ v-φ x≤wtP A X
 | [],v,x,Y,h1,h2,_=>by
  rw [kP h1 h2];simp[wtP]
 | k::X,v,x,Y,h1,h2,ho=>by
  cases h1 with
  | cons _ _ h1 =>
   obtain ⟨hk,hl⟩:=ho k (by simp)
   have := Wf G h1 h2 fun j hj=>ho j (by simp[hj])
   have hp:=G.pot k hk hl
   rw [H4];omega
theorem wP (G:Gb A N s φ) {v:Nat} {P:List Nat} (h:IsP A s v P):Opn A P→∃Q,IsP A s v Q∧Opn A Q∧(s::Q.map (aT A)).Nodup∧wtP A Q≤wtP A P:=by
 induction h with
 | nil=>intro _;exact⟨[],.nil,by intro k hk;simp at hk,by simp,Int.le_refl _⟩
 | cons k P h ih =>
  intro ho
  obtain ⟨hk,hl⟩:=ho k (by simp)
  obtain ⟨Q,q1,q2,q3,q4⟩:=ih fun j hj=>ho j (by simp[hj])
  have hp:=G.pot k hk hl
  rw [H4]
  by_cases e:aT A k∈Q.map (aT A)
  ·obtain ⟨X,Y,e1,e2⟩:=aU q1 e
   subst e1
   have h1:=Wf G q1 e2 fun j hj=>q2 j (List.mem_append.2 (.inl hj))
   rw [Adb]at q4
   refine ⟨Y,e2,fun j hj=>q2 j (List.mem_append.2 (.inr hj)),?_,by omega⟩
   rw [List.map_append]at q3
   rw [List.nodup_cons]at q3 ⊢
   exact ⟨fun g=>q3.1 (List.mem_append.2 (.inr g)),(List.nodup_append.1 q3.2).2.1⟩
  ·by_cases es:aT A k=s
   ·have h1:=Wf G (X:=Q) (Y := []) (x:=s) (by rw[List.append_nil];exact q1) .nil q2
    refine ⟨[],by rw[es];exact .nil,by intro j hj;simp at hj,by simp,?_⟩
    rw [es]at hp
    have : wtP A []=0:=rfl
    omega
   ·refine ⟨k::Q,.cons k Q q1,fun j hj=>?_,?_,by rw[H4];omega⟩
    ·rcases List.mem_cons.1 hj with g | g
     ·subst g;exact⟨hk,hl⟩
     ·exact q2 j g
    ·rw [List.map_cons]
     rw [List.nodup_cons]at q3 ⊢
     rw [List.nodup_cons]
     refine ⟨fun g=>?_,e,q3.2⟩
     rcases List.mem_cons.1 g with g | g
     ·exact es g.symm
     ·exact q3.1 g
theorem CT:∀(L:Nat) (l:List Nat),l.Nodup→(∀x∈l,x<L)→l.length≤L
 | 0,l,_,h=>by
  cases l with
  | nil=>exact Nat.le_refl _
  | cons a l=>exact absurd (h a (by simp)) (by omega)
 | L+1,l,hn,h=>by
  by_cases hm:L∈l
  ·have h1:=CT L (l.erase L) (hn.erase L) (fun x hx=>by
    have h2:=(hn.mem_erase_iff).1 hx
    have := h x h2.2
    omega)
   rw [List.length_erase_of_mem hm]at h1
   omega
  ·have := CT L l hn (fun x hx=>by
    have h1:=h x hx
    have : x≠L:=fun e=>hm (e▸hx)
    omega)
   omega
theorem wQ (G:Gb A N s φ) {v:Nat} {P:List Nat} (h:IsP A s v P) (ho:Opn A P) (vN:v<N):(Qt A N s).known.getD v false=true∧(Qt A N s).cost.getD v 0≤wtP A P:=by
 obtain ⟨Q,q1,q2,q3,q4⟩:=wP G h ho
 have hl:(s::Q.map (aT A)).length≤N:=CT N _ q3 fun x hx=>by
  rcases List.mem_cons.1 hx with g | g
  ·rw [g];exact G.sN
  ·obtain ⟨k,hk,rfl⟩:=List.mem_map.1 g
   exact (G.ar k (q2 k hk).1).2
 rw [List.length_cons,List.length_map]at hl
 obtain ⟨h1,h2⟩:=Ahp G q1 N (by omega) q2 vN
 exact ⟨h1,Int.le_trans h2 q4⟩
structure FB (A:List Arc) (N s:Nat) (st:BS):Prop where
 known : ∀v,v<N→(st.known.getD v false=true↔Rch A s v)
 clo : ∀k,k<A.length→0<aL A k→Rch A s (aF A k)→st.cost.getD (aT A k) 0≤st.cost.getD (aF A k) 0+aP A k
 cs : st.cost.getD s 0=0
 path : ∀v,v<N→Rch A s v→∃P,PL A st.last s v P∧IsP A s v P∧(P.map (aT A)).Nodup∧∀k∈P,k<A.length∧0<aL A k∧Rch A s (aF A k)∧Rch A s (aT A k)∧aP A k+st.cost.getD (aF A k) 0-st.cost.getD (aT A k) 0=0
theorem wR {v:Nat} (h:Rch A s v):∃P,IsP A s v P∧Opn A P:=by
 induction h with
 | src=>exact⟨[],.nil,by intro k hk;simp at hk⟩
 | arc k hk hl h ih =>
  obtain ⟨P,h1,h2⟩:=ih
  refine ⟨k::P,.cons k P h1,fun j hj=>?_⟩
  rcases List.mem_cons.1 hj with g | g
  ·subst g;exact⟨hk,hl⟩
  ·exact h2 j g
theorem wS {v:Nat} {P:List Nat} (h:IsP A s v P):Opn A P→Rch A s v:=by
 induction h with
 | nil=>intro _;exact .src
 | cons k P h ih =>
  intro ho
  obtain ⟨hk,hl⟩:=ho k (by simp)
  exact .arc k hk hl (ih fun j hj=>ho j (by simp[hj]))
theorem wT (G:Gb A N s φ):FB A N s (Qt A N s):=by
 have I:=Lz G N
 have hst:SX A N s N=Qt A N s:=rfl
 rw [hst]at I
 have hle:=fun {v:Nat} {P:List Nat} h ho vN=>wQ G (v:=v) (P:=P) h ho vN
 generalize Qt A N s=st at *
 have h1:∀v,v<N→(st.known.getD v false=true↔Rch A s v):=fun v hv=>by
  constructor
  ·intro g
   obtain ⟨P,w1,w2,_⟩:=I.wk v hv g
   exact wS w1 w2
  ·intro g
   obtain ⟨P,p1,p2⟩:=wR g
   exact (hle p1 p2 hv).1
 have h2:∀k,k<A.length→0<aL A k→Rch A s (aF A k)→st.cost.getD (aT A k) 0≤st.cost.getD (aF A k) 0+aP A k:=fun k hk hl hr=>by
  obtain ⟨uN,vN⟩:=G.ar k hk
  obtain ⟨P,w1,w2,w3⟩:=I.wk _ uN ((h1 _ uN).2 hr)
  have :=(hle (.cons k P w1) (fun j hj=>by
   rcases List.mem_cons.1 hj with g | g
   ·subst g;exact⟨hk,hl⟩
   ·exact w2 j g) vN).2
  rw [H4,w3]at this
  omega
 refine ⟨h1,h2,I.cs,fun v hv hr=>?_⟩
 obtain ⟨P,hP⟩:=I.pl v hv ((h1 v hv).2 hr)
 obtain ⟨_,_,k3,k4⟩:=kO G I hP hv ((h1 v hv).2 hr)
 have htight:∀ {w:Nat} {Q:List Nat},PL A st.last s w Q→w<N→Rch A s w→∀k∈Q,k<A.length∧0<aL A k∧Rch A s (aF A k)∧Rch A s (aT A k)∧aP A k+st.cost.getD (aF A k) 0-st.cost.getD (aT A k) 0=0:=fun {w Q} hQ=>by
  induction hQ with
  | nil=>intro _ _ k hk;simp at hk
  | cons w Q hw hT hQ ih =>
   intro wN wr k hk
   obtain ⟨j,a1,a2,a3,a4,a5,a6⟩:=I.par w wN ((h1 w wN).2 wr) hw
   rw [a1,Int.toNat_natCast]at hk ih
   have hjr:=(h1 _ (G.ar j a2).1).1 a5
   rcases List.mem_cons.1 hk with g | g
   ·subst g
    have := h2 k a2 a3 hjr
    rw [a4]at this
    exact ⟨a2,a3,hjr,by rw[a4];exact wr,by rw[a4];omega⟩
   ·exact ih (G.ar j a2).1 hjr k g
 have hnd:∀ {w:Nat} {Q:List Nat},PL A st.last s w Q→(Q.map (aT A)).Nodup:=fun {w Q} hQ=>by
  induction hQ with
  | nil=>simp
  | cons w Q hw hT hQ ih =>
   rw [List.map_cons,List.nodup_cons,hT]
   refine ⟨fun g=>?_,ih⟩
   -- w would come again
   have key:∀ {x:Nat} {R:List Nat},PL A st.last s x R→w∈R.map (aT A)→∃Y,PL A st.last s w Y∧Y.length≤R.length:=fun {x R} hR=>by
    induction hR with
    | nil=>intro g;simp at g
    | cons x R hx hT' hR ih' =>
     intro g
     rw [List.map_cons,hT']at g
     by_cases e:w=x
     ·subst e
      exact ⟨_,.cons w R hx hT' hR,Nat.le_refl _⟩
     ·rcases List.mem_cons.1 g with g | g
      ·exact absurd g e
      ·obtain ⟨Y,y1,y2⟩:=ih' g
       exact ⟨Y,y1,by rw[List.length_cons];omega⟩
   obtain ⟨Y,y1,y2⟩:=key hQ g
   have := Ada y1 (.cons w Q hw hT hQ)
   rw [this,List.length_cons]at y2
   omega
 exact ⟨P,hP,k3,hnd hP,htight hP hv hr⟩
end
end Sim
namespace Sim
structure SB (A:List Arc) (N m s t:Nat) (sent:Int):Prop where
 wp : WPr A m
 ar : ∀k,k<A.length→aF A k<N∧aT A k<N
 sN : s<N
 tN : t<N
 st : s≠t
 pr : ∀k,k<A.length → -1000000≤aP A k∧aP A k≤1000000
 val : (fnA A N s t).Val (flA A) sent
 pot : ∃φ:Nat→Int,∀k,k<A.length→0<aL A k→0≤aP A k+φ (aF A k)-φ (aT A k)
theorem SI.sb {A:List Arc} {out:List (List Nat)} {lv:List Int} {N m s t:Nat} {sent:Int} (S:SI A out lv N m s t sent):SB A N m s t sent :=
 ⟨S.wp, S.ar,S.sN,S.tN,S.st,S.pr,S.val,by obtain⟨φ,h,_⟩:=S.pot;exact⟨φ,h⟩⟩
def kQ (A:List Arc) (N s t:Nat):List Nat:=EI A (Qt A N s).last s N t
section
variable {A:List Arc} {N m s t:Nat} {sent p bytes:Int}
end
inductive SpecR (N s t:Nat) (bytes:Int):List Arc→Int→List Arc→Int→Prop
 | full (A sent) (h:¬sent<bytes):SpecR N s t bytes A sent A sent
 | stop (A sent) (h:sent<bytes) (hd:(Qt A N s).known.getD t false=false):SpecR N s t bytes A sent A sent
 | step (A sent A' r) (h:sent<bytes) (hd:(Qt A N s).known.getD t false=true)
   (hr : SpecR N s t bytes (aug A (CV A (bytes-sent) (kQ A N s t)) (kQ A N s t)) (sent+CV A (bytes-sent) (kQ A N s t)) A' r):SpecR N s t bytes A sent A' r
section
variable {A:List Arc} {N m s t:Nat} {sent bytes:Int}
end
end Sim
namespace Sim
open Go Go.Proofs
theorem AP:Try.prog.follows .mixedOrders=true:=by kernel_rfl
abbrev itV (x:It):PV:=.agg [I x.1,I (x.2:Nat)]
theorem JS {l:List It} {k:Nat} (h:k<l.length):nth (l.map itV) k=.agg [I (l.getD k dI).1,I ((l.getD k dI).2:Nat)]:=DQ dI h
theorem wU {l:List It}:AN (l.map itV)=true:=H2 fun x=>by simp[JH,Dt,Ft,FQ]
theorem W0 {l m:List It}:(l.map itV=m.map itV)=(l=m):=H3 fun x y h=>by
 simp only[PV.agg.injEq,List.cons.injEq,true_and,and_true,PV.int.injEq]at h
 exact Prod.ext h.1 (by omega)
abbrev Dc (a:Arc):PV:=.agg [I (a.1:Nat),I (a.2.1:Nat),I a.2.2.1,I a.2.2.2]
theorem Ci {l:List Arc} {k:Nat} (h:k<l.length):nth (l.map Dc) k=.agg [I ((l.getD k dA).1:Nat),I ((l.getD k dA).2.1:Nat),I (l.getD k dA).2.2.1,I (l.getD k dA).2.2.2]:=DQ dA h
theorem kR {l:List Arc}:AN (l.map Dc)=true:=H2 fun x=>by simp[JH,Dt,Ft,FQ]
theorem MA {l m:List Arc}:(l.map Dc=m.map Dc)=(l=m):=H3 fun x y h=>by
 simp only[PV.agg.injEq,List.cons.injEq,true_and,and_true,PV.int.injEq]at h
 exact Prod.ext (by omega) (Prod.ext (by omega) (Prod.ext h.2.2.1 h.2.2.2))
abbrev Lnk:=Int×Int×(Fin 24→Int)×(Fin 24→Int)
abbrev dL:Lnk:=(0,0,fun _=>0,fun _=>0)
def lkC (a:Lnk):List PV:=I a.1::I a.2.1::((List.ofFn a.2.2.1).map (PV.int .i64)++(List.ofFn a.2.2.2).map (PV.int .i64))
abbrev MC (a:Lnk):PV:=.agg (lkC a)
abbrev Az (l:List Lnk):PV:=.lits 50 (l.map MC)
abbrev Net:=Int×List Lnk
abbrev kT (n:Net):PV:=.agg [I n.1,Az n.2]
abbrev Snd:=Int×Int×Int
abbrev dS:Snd:=(0,0,0)
abbrev GX (a:Snd):PV:=.agg [I a.1,I a.2.1,I a.2.2]
abbrev AB (l:List Snd):PV:=.lits 3 (l.map GX)
def CL (a:Lnk) (h:Nat):Int:=if g:h<24 then a.2.2.1 ⟨h,g⟩else 0
def Er (a:Lnk) (h:Nat):Int:=if g:h<24 then a.2.2.2 ⟨h,g⟩else 0
theorem H5 {f:Fin 24→Int} {h:Nat} (g:h<24):(List.ofFn f)[h]?=some (f ⟨h,g⟩):=by
 rw [List.getElem?_eq_getElem (by rw[List.length_ofFn];exact g),List.getElem_ofFn]
theorem kU {f g:Fin 24→Int} (h:List.ofFn f=List.ofFn g):f=g:=funext fun i=>by
 have h1:=H5 (f:=f) i.2
 have h2:=H5 (f:=g) i.2
 rw [h,h2]at h1
 exact (Option.some.inj h1).symm
theorem Hv {f:Fin 24→Int}:((List.ofFn f).map (PV.int .i64)).length=24:=by rw[List.length_map,List.length_ofFn]
theorem BG {a:Lnk}:(lkC a).length=50:=by simp[lkC]
theorem Fd {a:Lnk}:(lkC a)[0]?=some (I a.1):=by simp[lkC]
theorem IE {a:Lnk}:(lkC a)[1]?=some (I a.2.1):=by simp[lkC]
theorem Cu {a:Lnk} {h:Nat} (g:h<24):(lkC a)[2+h]?=some (I (CL a h)):=by
 simp only[lkC,CL,g,dite_true]
 rw [show 2+h=h+1+1 by omega,List.getElem?_cons_succ,List.getElem?_cons_succ,List.getElem?_append_left (by rw[Hv];exact g),List.getElem?_map,H5 g];rfl
theorem Ei {a:Lnk} {h:Nat} (g:h<24):(lkC a)[26+h]?=some (I (Er a h)):=by
 simp only[lkC,Er,g,dite_true]
 rw [show 26+h=(24+h)+1+1 by omega,List.getElem?_cons_succ,List.getElem?_cons_succ,List.getElem?_append_right (by rw[Hv];omega),Hv,show 24+h-24=h by omega,List.getElem?_map,H5 g];rfl
theorem CQ {a:Lnk}:List.take 50 (lkC a)=lkC a:=List.take_of_length_le (by rw[BG];omega)
theorem wV {a b:Lnk} (h:lkC a=lkC b):a=b:=by
 simp only[lkC,List.cons.injEq,PV.int.injEq,true_and]at h
 obtain ⟨h1,h2,h3⟩:=h
 obtain ⟨h4,h5⟩:=List.append_inj h3 (by rw[Hv,Hv])
 have e:∀ {f g:Fin 24→Int},(List.ofFn f).map (PV.int .i64)=(List.ofFn g).map (PV.int .i64)→f=g:=fun h=>kU (FP (fun x y h=>by injection h) h)
 exact Prod.ext h1 (Prod.ext h2 (Prod.ext (e h4) (e h5)))
theorem W1 {a:Lnk}:AN (lkC a)=true:=by
 have : ∀ {l:List Int} {r:List PV},AN r=true→AN (l.map (PV.int .i64)++r)=true:=by
  intro l r h
  induction l with
  | nil=>exact h
  | cons a l ih=>simp[Dt,Ft,ih]
 simp only[lkC,Dt,Ft,Bool.true_and]
 exact this (EZ)
theorem Br {l:List Lnk} {k:Nat} (h:k<l.length):nth (l.map MC) k=.agg (lkC (l.getD k dL)):=DQ dL h
theorem Ab {l:List Lnk}:AN (l.map MC)=true:=H2 fun x=>by rw[JH,W1]
theorem AG {l m:List Lnk}:(l.map MC=m.map MC)=(l=m):=H3 fun x y h=>by
 simp only[PV.agg.injEq]at h
 exact wV h
theorem AH {l:List Snd} {k:Nat} (h:k<l.length):nth (l.map GX) k=.agg [I (l.getD k dS).1,I (l.getD k dS).2.1,I (l.getD k dS).2.2]:=DQ dS h
theorem Ac {l:List Snd}:AN (l.map GX)=true:=H2 fun x=>by simp[JH,Dt,Ft,FQ]
theorem AR {l m:List Snd}:(l.map GX=m.map GX)=(l=m):=H3 fun x y h=>by
 simp only[PV.agg.injEq,List.cons.injEq,true_and,and_true,PV.int.injEq]at h
 exact Prod.ext h.1 (Prod.ext h.2.1 h.2.2)
end Sim
